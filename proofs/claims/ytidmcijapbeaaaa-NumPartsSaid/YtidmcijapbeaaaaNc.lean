/- The small form of each function, as the machine reckons it. -/
import Derived.Test.YtidmcijapbeaaaaMoiY
import Derived.Test.YtidmcijapbeaaaaChecked
set_option linter.unusedVariables false
set_option maxRecDepth 100000
namespace Go.Proofs.Ytidmcijapbeaaaa.Moi
open Go Go.RowKit
theorem mixed : Try.prog.follows .mixedOrders = true := Try.checked.mixed
abbrev iv (n : Int) : AV := .sc (.int .i64 n)
abbrev bl (l : List Int) : List AV := kl .u8 l
theorem bl_app {a b : List Int} : bl (a ++ b) = bl a ++ bl b := List.map_append
theorem bl_len {a : List Int} : (bl a).length = a.length := List.length_map ..
theorem bl_take {a : List Int} {n : Nat} : bl (a.take n) = (bl a).take n := List.map_take
theorem bl_drop {a : List Int} {n : Nat} : bl (a.drop n) = (bl a).drop n := List.map_drop

def n3 : NCode :=
  .seq (.ops [
    ⟨(some 6), none, .op (.move (.k (bo false))), []⟩])
  (.seq (.seq (.ops [
    ⟨(some 21), none, .op (.move (.r 2)), []⟩,
    ⟨(some 22), none, .op (.lenL (.r 21)), []⟩,
    ⟨(some 23), none, .op (.bin .gtr .other (.r 22) (.k (i64 2000))), []⟩])
  (.cond (.r 23)
  (.seq (.ops [
    ⟨(some 24), none, .call (.k (.clos 7 [])) [], []⟩,
    ⟨(some 6), none, .op (.move (.r 24)), []⟩])
  (.ret))
  (.skip)))
  (.seq (.ops [
    ⟨(some 25), none, .op (.move (.r 0)), []⟩,
    ⟨(some 26), none, .op (.move (.r 1)), []⟩,
    ⟨(some 27), none, .op (.build [(i64 0), (.sc (.int .u64 0))] [(0, 1, (.r 25)), (1, 1, (.r 26))]), []⟩,
    ⟨(some 28), none, .op (.move (.r 2)), []⟩,
    ⟨(some 29), none, .call (.k (.clos 8 [])) [(.r 27), (.r 28)], []⟩,
    ⟨(some 7), none, .op (.alloc [(i64 0), (.sc (.int .u64 0))]), []⟩,
    ⟨none, none, .op (.store 2 (.r 7) (.r 29)), []⟩])
  (.seq (.ops [
    ⟨(some 30), none, .op (.move (.r 0)), []⟩,
    ⟨(some 31), none, .op (.move (.r 1)), []⟩,
    ⟨(some 32), none, .op (.build [(i64 0), (.sc (.int .u64 0))] [(0, 1, (.r 30)), (1, 1, (.r 31))]), []⟩,
    ⟨(some 33), none, .op (.move (.r 2)), []⟩,
    ⟨(some 34), none, .call (.k (.clos 9 [])) [(.r 32), (.r 33)], []⟩,
    ⟨(some 8), none, .op (.alloc [(i64 0), (.sc (.int .u64 0))]), []⟩,
    ⟨none, none, .op (.store 2 (.r 8) (.r 34)), []⟩])
  (.seq (.ops [
    ⟨(some 36), none, .op (.load (some 2) (.r 7)), []⟩,
    ⟨(some 37), none, .call (.k (.clos 10 [])) [(.r 36)], []⟩,
    ⟨(some 35), none, .op (.move (.r 37)), []⟩,
    ⟨(some 38), none, .op (.extract 0 (.r 35)), []⟩,
    ⟨(some 39), none, .op (.extract 1 (.r 35)), []⟩,
    ⟨(some 9), none, .op (.move (.r 38)), []⟩,
    ⟨(some 10), none, .op (.move (.r 39)), []⟩])
  (.seq (.ops [
    ⟨(some 41), none, .op (.load (some 2) (.r 8)), []⟩,
    ⟨(some 42), none, .call (.k (.clos 11 [])) [(.r 41)], []⟩,
    ⟨(some 40), none, .op (.move (.r 42)), []⟩,
    ⟨(some 43), none, .op (.extract 0 (.r 40)), []⟩,
    ⟨(some 44), none, .op (.extract 1 (.r 40)), []⟩,
    ⟨(some 11), none, .op (.move (.r 43)), []⟩,
    ⟨(some 12), none, .op (.move (.r 44)), []⟩])
  (.seq (.ops [
    ⟨(some 46), none, .op (.move (.r 2)), []⟩,
    ⟨(some 47), none, .call (.k (.clos 12 [])) [(.r 46)], []⟩,
    ⟨(some 45), none, .op (.move (.r 47)), []⟩,
    ⟨(some 48), none, .op (.extract 0 (.r 45)), []⟩,
    ⟨(some 49), none, .op (.extract 1 (.r 45)), []⟩,
    ⟨(some 13), none, .op (.move (.r 48)), []⟩,
    ⟨(some 14), none, .op (.move (.r 49)), []⟩])
  (.seq (.ops [
    ⟨(some 51), none, .op (.move (.r 2)), []⟩,
    ⟨(some 52), none, .call (.k (.clos 13 [])) [(.r 51)], []⟩,
    ⟨(some 50), none, .op (.move (.r 52)), []⟩,
    ⟨(some 53), none, .op (.extract 0 (.r 50)), []⟩,
    ⟨(some 54), none, .op (.extract 1 (.r 50)), []⟩,
    ⟨(some 15), none, .op (.move (.r 53)), []⟩,
    ⟨(some 16), none, .op (.move (.r 54)), []⟩])
  (.seq (.ops [
    ⟨(some 17), none, .op (.move (.k (.lst [] .nil))), []⟩])
  (.seq (.seq (.ops [
    ⟨(some 55), none, .op (.move (.r 2)), []⟩,
    ⟨(some 56), none, .op (.lenL (.r 55)), []⟩,
    ⟨(some 18), none, .op (.move (.r 56)), []⟩])
  (.block 0 (.loop (.seq (.seq (.ops [
    ⟨(some 57), none, .op (.move (.r 18)), []⟩,
    ⟨(some 58), none, .op (.bin .gtr .other (.r 57) (.k (i64 0))), []⟩])
  (.cond (.r 58)
  (.skip)
  (.exit 0)))
  (.seq (.block 1 (.ops [
    ⟨(some 61), none, .op (.move (.r 17)), []⟩,
    ⟨(some 62), none, .op (.move (.r 2)), []⟩,
    ⟨(some 63), none, .op (.move (.r 18)), []⟩,
    ⟨(some 64), none, .op (.bin .sub .other (.r 63) (.k (i64 1))), []⟩,
    ⟨(some 65), none, .op (.idxAddr 1 (.r 62) (.r 64)), []⟩,
    ⟨(some 66), none, .op (.load none (.r 65)), []⟩,
    ⟨(some 67), none, .op (.buildSlice none [(i64 0)] 1 [(0, (.r 66))]), []⟩,
    ⟨(some 68), none, .op (.append false none 8 [(i64 0)] (.r 61) (.r 67)), []⟩,
    ⟨(some 17), none, .op (.move (.r 68)), []⟩]))
  (.ops [
    ⟨(some 59), none, .op (.move (.r 18)), []⟩,
    ⟨(some 60), none, .op (.bin .sub .other (.r 59) (.k (i64 1))), []⟩,
    ⟨(some 18), none, .op (.move (.r 60)), []⟩]))))))
  (.seq (.ops [
    ⟨(some 70), none, .op (.move (.r 17)), []⟩,
    ⟨(some 71), none, .call (.k (.clos 12 [])) [(.r 70)], []⟩,
    ⟨(some 69), none, .op (.move (.r 71)), []⟩,
    ⟨(some 72), none, .op (.extract 0 (.r 69)), []⟩,
    ⟨(some 73), none, .op (.extract 1 (.r 69)), []⟩,
    ⟨(some 19), none, .op (.move (.r 72)), []⟩,
    ⟨(some 20), none, .op (.move (.r 73)), []⟩])
  (.seq (.ops [
    ⟨(some 74), none, .op (.fieldAddr 0 (.r 7)), []⟩,
    ⟨(some 75), none, .op (.load none (.r 74)), []⟩,
    ⟨(some 76), none, .op (.fieldAddr 0 (.r 8)), []⟩,
    ⟨(some 77), none, .op (.load none (.r 76)), []⟩,
    ⟨(some 78), none, .op (.bin .eql .other (.r 75) (.r 77)), []⟩,
    ⟨(some 79), none, .op (.move (.r 78)), []⟩,
    ⟨(some 80), (some (79, true)), .op (.fieldAddr 1 (.r 7)), []⟩,
    ⟨(some 81), (some (79, true)), .op (.load none (.r 80)), []⟩,
    ⟨(some 82), (some (79, true)), .op (.fieldAddr 1 (.r 8)), []⟩,
    ⟨(some 83), (some (79, true)), .op (.load none (.r 82)), []⟩,
    ⟨(some 84), (some (79, true)), .op (.bin .eql .other (.r 81) (.r 83)), []⟩,
    ⟨(some 85), none, .op (.pick (.r 79) (.r 84) (.k (bo false))), []⟩,
    ⟨(some 86), none, .op (.move (.r 85)), []⟩,
    ⟨(some 87), (some (86, true)), .op (.move (.r 9)), []⟩,
    ⟨(some 88), (some (86, true)), .op (.move (.r 11)), []⟩,
    ⟨(some 89), (some (86, true)), .op (.bin .eql .other (.r 87) (.r 88)), []⟩,
    ⟨(some 90), none, .op (.pick (.r 86) (.r 89) (.k (bo false))), []⟩,
    ⟨(some 91), none, .op (.move (.r 90)), []⟩,
    ⟨(some 92), (some (91, true)), .op (.move (.r 10)), []⟩,
    ⟨(some 93), (some (91, true)), .op (.move (.r 12)), []⟩,
    ⟨(some 94), (some (91, true)), .op (.bin .eql .other (.r 92) (.r 93)), []⟩,
    ⟨(some 95), none, .op (.pick (.r 91) (.r 94) (.k (bo false))), []⟩,
    ⟨(some 96), none, .op (.move (.r 95)), []⟩,
    ⟨(some 97), (some (96, true)), .op (.move (.r 13)), []⟩,
    ⟨(some 98), (some (96, true)), .op (.move (.r 15)), []⟩,
    ⟨(some 99), (some (96, true)), .op (.bin .eql .other (.r 97) (.r 98)), []⟩,
    ⟨(some 100), none, .op (.pick (.r 96) (.r 99) (.k (bo false))), []⟩,
    ⟨(some 101), none, .op (.move (.r 100)), []⟩,
    ⟨(some 102), (some (101, true)), .op (.move (.r 14)), []⟩,
    ⟨(some 103), (some (101, true)), .op (.move (.r 16)), []⟩,
    ⟨(some 104), (some (101, true)), .op (.bin .eql .other (.r 102) (.r 103)), []⟩,
    ⟨(some 105), none, .op (.pick (.r 101) (.r 104) (.k (bo false))), []⟩,
    ⟨(some 106), none, .op (.move (.r 105)), []⟩,
    ⟨(some 107), (some (106, true)), .op (.move (.r 19)), []⟩,
    ⟨(some 108), (some (106, true)), .op (.move (.r 13)), []⟩,
    ⟨(some 109), (some (106, true)), .op (.bin .eql .other (.r 107) (.r 108)), []⟩,
    ⟨(some 110), none, .op (.pick (.r 106) (.r 109) (.k (bo false))), []⟩,
    ⟨(some 111), none, .op (.move (.r 110)), []⟩,
    ⟨(some 112), (some (111, true)), .op (.move (.r 20)), []⟩,
    ⟨(some 113), (some (111, true)), .op (.move (.r 14)), []⟩,
    ⟨(some 114), (some (111, true)), .op (.bin .eql .other (.r 112) (.r 113)), []⟩,
    ⟨(some 115), none, .op (.pick (.r 111) (.r 114) (.k (bo false))), []⟩,
    ⟨(some 116), none, .op (.move (.r 115)), []⟩,
    ⟨(some 117), (some (116, true)), .call (.k (.clos 7 [])) [], []⟩,
    ⟨(some 118), none, .op (.pick (.r 116) (.r 117) (.k (bo false))), []⟩,
    ⟨(some 6), none, .op (.move (.r 118)), []⟩])
  (.ret))))))))))))
theorem e3 : Try.f3.body.map (normCode Try.prog false Try.f3.ntmps) = some n3 := by kernel_rfl
theorem r3 : resOf Try.f3 = some [6] := by kernel_rfl

def n4 : NCode :=
  .seq (.ops [
    ⟨(some 6), none, .op (.move (.k (bo false))), []⟩])
  (.seq (.ops [
    ⟨(some 19), none, .op (.move (.r 0)), []⟩,
    ⟨(some 20), none, .op (.move (.r 1)), []⟩,
    ⟨(some 21), none, .op (.move (.r 2)), []⟩,
    ⟨(some 22), none, .call (.k (.clos 14 [])) [(.r 19), (.r 20), (.r 21)], []⟩,
    ⟨(some 18), none, .op (.move (.r 22)), []⟩,
    ⟨(some 23), none, .op (.extract 0 (.r 18)), []⟩,
    ⟨(some 24), none, .op (.extract 1 (.r 18)), []⟩,
    ⟨(some 25), none, .op (.extract 2 (.r 18)), []⟩,
    ⟨(some 7), none, .op (.move (.r 23)), []⟩,
    ⟨(some 8), none, .op (.move (.r 24)), []⟩,
    ⟨(some 9), none, .op (.move (.r 25)), []⟩])
  (.seq (.ops [
    ⟨(some 27), none, .op (.move (.r 0)), []⟩,
    ⟨(some 28), none, .op (.move (.r 1)), []⟩,
    ⟨(some 29), none, .op (.move (.r 2)), []⟩,
    ⟨(some 30), none, .call (.k (.clos 15 [])) [(.r 27), (.r 28), (.r 29)], []⟩,
    ⟨(some 26), none, .op (.move (.r 30)), []⟩,
    ⟨(some 31), none, .op (.extract 0 (.r 26)), []⟩,
    ⟨(some 32), none, .op (.extract 1 (.r 26)), []⟩,
    ⟨(some 33), none, .op (.extract 2 (.r 26)), []⟩,
    ⟨(some 10), none, .op (.move (.r 31)), []⟩,
    ⟨(some 11), none, .op (.move (.r 32)), []⟩,
    ⟨(some 12), none, .op (.move (.r 33)), []⟩])
  (.seq (.seq (.ops [
    ⟨(some 34), none, .op (.move (.r 7)), []⟩,
    ⟨(some 35), none, .op (.move (.r 10)), []⟩,
    ⟨(some 36), none, .op (.bin .neq .other (.r 34) (.r 35)), []⟩,
    ⟨(some 37), none, .op (.move (.r 36)), []⟩,
    ⟨(some 38), (some (37, false)), .op (.move (.r 8)), []⟩,
    ⟨(some 39), (some (37, false)), .op (.move (.r 11)), []⟩,
    ⟨(some 40), (some (37, false)), .op (.bin .neq .other (.r 38) (.r 39)), []⟩,
    ⟨(some 41), none, .op (.pick (.r 37) (.k (bo true)) (.r 40)), []⟩,
    ⟨(some 42), none, .op (.move (.r 41)), []⟩,
    ⟨(some 43), (some (42, false)), .op (.move (.r 9)), []⟩,
    ⟨(some 44), (some (42, false)), .op (.move (.r 12)), []⟩,
    ⟨(some 45), (some (42, false)), .op (.bin .neq .other (.r 43) (.r 44)), []⟩,
    ⟨(some 46), none, .op (.pick (.r 42) (.k (bo true)) (.r 45)), []⟩])
  (.cond (.r 46)
  (.seq (.ops [
    ⟨(some 6), none, .op (.move (.k (bo false))), []⟩])
  (.ret))
  (.skip)))
  (.seq (.seq (.ops [
    ⟨(some 47), none, .op (.move (.r 12)), []⟩,
    ⟨(some 48), none, .op (.bin .neq .other (.r 47) (.k (i64 0))), []⟩])
  (.cond (.r 48)
  (.seq (.ops [
    ⟨(some 49), none, .call (.k (.clos 7 [])) [], []⟩,
    ⟨(some 6), none, .op (.move (.r 49)), []⟩])
  (.ret))
  (.skip)))
  (.seq (.ops [
    ⟨(some 51), none, .op (.move (.r 0)), []⟩,
    ⟨(some 52), none, .op (.move (.r 1)), []⟩,
    ⟨(some 53), none, .call (.k (.clos 16 [])) [(.r 51), (.r 52)], []⟩,
    ⟨(some 50), none, .op (.move (.r 53)), []⟩,
    ⟨(some 54), none, .op (.extract 0 (.r 50)), []⟩,
    ⟨(some 55), none, .op (.extract 1 (.r 50)), []⟩,
    ⟨(some 13), none, .op (.move (.r 54)), []⟩,
    ⟨(some 14), none, .op (.move (.r 55)), []⟩])
  (.seq (.ops [
    ⟨(some 57), none, .op (.move (.r 7)), []⟩,
    ⟨(some 58), none, .op (.move (.r 2)), []⟩,
    ⟨(some 59), none, .call (.k (.clos 16 [])) [(.r 57), (.r 58)], []⟩,
    ⟨(some 56), none, .op (.move (.r 59)), []⟩,
    ⟨(some 60), none, .op (.extract 0 (.r 56)), []⟩,
    ⟨(some 61), none, .op (.extract 1 (.r 56)), []⟩,
    ⟨(some 15), none, .op (.move (.r 60)), []⟩,
    ⟨(some 16), none, .op (.move (.r 61)), []⟩])
  (.seq (.ops [
    ⟨(some 62), none, .op (.move (.r 16)), []⟩,
    ⟨(some 63), none, .op (.move (.r 8)), []⟩,
    ⟨(some 64), none, .op (.bin .add .other (.r 62) (.r 63)), []⟩,
    ⟨(some 17), none, .op (.move (.r 64)), []⟩])
  (.seq (.seq (.ops [
    ⟨(some 65), none, .op (.move (.r 17)), []⟩,
    ⟨(some 66), none, .op (.move (.r 16)), []⟩,
    ⟨(some 67), none, .op (.bin .lss .other (.r 65) (.r 66)), []⟩])
  (.cond (.r 67)
  (.ops [
    ⟨(some 68), none, .op (.move (.r 15)), []⟩,
    ⟨(some 69), none, .op (.bin .add .other (.r 68) (.k (.sc (.int .u64 1)))), []⟩,
    ⟨(some 15), none, .op (.move (.r 69)), []⟩])
  (.skip)))
  (.seq (.ops [
    ⟨(some 70), none, .op (.move (.r 8)), []⟩,
    ⟨(some 71), none, .op (.move (.r 2)), []⟩,
    ⟨(some 72), none, .op (.bin .lss .other (.r 70) (.r 71)), []⟩,
    ⟨(some 73), none, .op (.move (.r 72)), []⟩,
    ⟨(some 74), (some (73, true)), .op (.move (.r 15)), []⟩,
    ⟨(some 75), (some (73, true)), .op (.move (.r 13)), []⟩,
    ⟨(some 76), (some (73, true)), .op (.bin .eql .other (.r 74) (.r 75)), []⟩,
    ⟨(some 77), none, .op (.pick (.r 73) (.r 76) (.k (bo false))), []⟩,
    ⟨(some 78), none, .op (.move (.r 77)), []⟩,
    ⟨(some 79), (some (78, true)), .op (.move (.r 17)), []⟩,
    ⟨(some 80), (some (78, true)), .op (.move (.r 14)), []⟩,
    ⟨(some 81), (some (78, true)), .op (.bin .eql .other (.r 79) (.r 80)), []⟩,
    ⟨(some 82), none, .op (.pick (.r 78) (.r 81) (.k (bo false))), []⟩,
    ⟨(some 83), none, .op (.move (.r 82)), []⟩,
    ⟨(some 84), (some (83, true)), .call (.k (.clos 7 [])) [], []⟩,
    ⟨(some 85), none, .op (.pick (.r 83) (.r 84) (.k (bo false))), []⟩,
    ⟨(some 6), none, .op (.move (.r 85)), []⟩])
  (.ret))))))))))
theorem e4 : Try.f4.body.map (normCode Try.prog false Try.f4.ntmps) = some n4 := by kernel_rfl
theorem r4 : resOf Try.f4 = some [6] := by kernel_rfl

def n5 : NCode :=
  .seq (.ops [
    ⟨(some 4), none, .op (.move (.k (bo false))), []⟩])
  (.seq (.ops [
    ⟨(some 18), none, .op (.move (.r 0)), []⟩,
    ⟨(some 19), none, .op (.move (.r 1)), []⟩,
    ⟨(some 20), none, .call (.k (.clos 17 [])) [(.r 18), (.r 19)], []⟩,
    ⟨(some 17), none, .op (.move (.r 20)), []⟩,
    ⟨(some 21), none, .op (.extract 0 (.r 17)), []⟩,
    ⟨(some 22), none, .op (.extract 1 (.r 17)), []⟩,
    ⟨(some 5), none, .op (.move (.r 21)), []⟩,
    ⟨(some 6), none, .op (.move (.r 22)), []⟩])
  (.seq (.ops [
    ⟨(some 24), none, .op (.move (.r 0)), []⟩,
    ⟨(some 25), none, .op (.move (.r 1)), []⟩,
    ⟨(some 26), none, .call (.k (.clos 18 [])) [(.r 24), (.r 25)], []⟩,
    ⟨(some 23), none, .op (.move (.r 26)), []⟩,
    ⟨(some 27), none, .op (.extract 0 (.r 23)), []⟩,
    ⟨(some 28), none, .op (.extract 1 (.r 23)), []⟩,
    ⟨(some 7), none, .op (.move (.r 27)), []⟩,
    ⟨(some 8), none, .op (.move (.r 28)), []⟩])
  (.seq (.ops [
    ⟨(some 30), none, .op (.move (.r 0)), []⟩,
    ⟨(some 31), none, .op (.move (.r 1)), []⟩,
    ⟨(some 32), none, .call (.k (.clos 19 [])) [(.r 30), (.r 31)], []⟩,
    ⟨(some 29), none, .op (.move (.r 32)), []⟩,
    ⟨(some 33), none, .op (.extract 0 (.r 29)), []⟩,
    ⟨(some 34), none, .op (.extract 1 (.r 29)), []⟩,
    ⟨(some 9), none, .op (.move (.r 33)), []⟩,
    ⟨(some 10), none, .op (.move (.r 34)), []⟩])
  (.seq (.ops [
    ⟨(some 36), none, .op (.move (.r 0)), []⟩,
    ⟨(some 37), none, .op (.move (.r 1)), []⟩,
    ⟨(some 38), none, .call (.k (.clos 20 [])) [(.r 36), (.r 37)], []⟩,
    ⟨(some 35), none, .op (.move (.r 38)), []⟩,
    ⟨(some 39), none, .op (.extract 0 (.r 35)), []⟩,
    ⟨(some 40), none, .op (.extract 1 (.r 35)), []⟩,
    ⟨(some 11), none, .op (.move (.r 39)), []⟩,
    ⟨(some 12), none, .op (.move (.r 40)), []⟩])
  (.seq (.ops [
    ⟨(some 42), none, .op (.move (.r 0)), []⟩,
    ⟨(some 43), none, .call (.k (.clos 21 [])) [(.r 42)], []⟩,
    ⟨(some 41), none, .op (.move (.r 43)), []⟩,
    ⟨(some 44), none, .op (.extract 0 (.r 41)), []⟩,
    ⟨(some 45), none, .op (.extract 1 (.r 41)), []⟩,
    ⟨(some 13), none, .op (.move (.r 44)), []⟩,
    ⟨(some 14), none, .op (.move (.r 45)), []⟩])
  (.seq (.ops [
    ⟨(some 47), none, .op (.move (.r 0)), []⟩,
    ⟨(some 48), none, .call (.k (.clos 22 [])) [(.r 47)], []⟩,
    ⟨(some 46), none, .op (.move (.r 48)), []⟩,
    ⟨(some 49), none, .op (.extract 0 (.r 46)), []⟩,
    ⟨(some 50), none, .op (.extract 1 (.r 46)), []⟩,
    ⟨(some 15), none, .op (.move (.r 49)), []⟩,
    ⟨(some 16), none, .op (.move (.r 50)), []⟩])
  (.seq (.ops [
    ⟨(some 51), none, .op (.move (.r 5)), []⟩,
    ⟨(some 52), none, .op (.move (.r 7)), []⟩,
    ⟨(some 53), none, .op (.bin .eql .other (.r 51) (.r 52)), []⟩,
    ⟨(some 54), none, .op (.move (.r 53)), []⟩,
    ⟨(some 55), (some (54, true)), .op (.move (.r 6)), []⟩,
    ⟨(some 56), (some (54, true)), .op (.move (.r 8)), []⟩,
    ⟨(some 57), (some (54, true)), .op (.bin .eql .other (.r 55) (.r 56)), []⟩,
    ⟨(some 58), none, .op (.pick (.r 54) (.r 57) (.k (bo false))), []⟩,
    ⟨(some 59), none, .op (.move (.r 58)), []⟩,
    ⟨(some 60), (some (59, true)), .op (.move (.r 9)), []⟩,
    ⟨(some 61), (some (59, true)), .op (.move (.r 11)), []⟩,
    ⟨(some 62), (some (59, true)), .op (.bin .eql .other (.r 60) (.r 61)), []⟩,
    ⟨(some 63), none, .op (.pick (.r 59) (.r 62) (.k (bo false))), []⟩,
    ⟨(some 64), none, .op (.move (.r 63)), []⟩,
    ⟨(some 65), (some (64, true)), .op (.move (.r 10)), []⟩,
    ⟨(some 66), (some (64, true)), .op (.move (.r 12)), []⟩,
    ⟨(some 67), (some (64, true)), .op (.bin .eql .other (.r 65) (.r 66)), []⟩,
    ⟨(some 68), none, .op (.pick (.r 64) (.r 67) (.k (bo false))), []⟩,
    ⟨(some 69), none, .op (.move (.r 68)), []⟩,
    ⟨(some 70), (some (69, true)), .op (.move (.r 13)), []⟩,
    ⟨(some 71), (some (69, true)), .op (.move (.r 15)), []⟩,
    ⟨(some 72), (some (69, true)), .op (.bin .eql .other (.r 70) (.r 71)), []⟩,
    ⟨(some 73), none, .op (.pick (.r 69) (.r 72) (.k (bo false))), []⟩,
    ⟨(some 74), none, .op (.move (.r 73)), []⟩,
    ⟨(some 75), (some (74, true)), .op (.move (.r 14)), []⟩,
    ⟨(some 76), (some (74, true)), .op (.move (.r 16)), []⟩,
    ⟨(some 77), (some (74, true)), .op (.bin .eql .other (.r 75) (.r 76)), []⟩,
    ⟨(some 78), none, .op (.pick (.r 74) (.r 77) (.k (bo false))), []⟩,
    ⟨(some 79), none, .op (.move (.r 78)), []⟩,
    ⟨(some 80), (some (79, true)), .call (.k (.clos 7 [])) [], []⟩,
    ⟨(some 81), none, .op (.pick (.r 79) (.r 80) (.k (bo false))), []⟩,
    ⟨(some 4), none, .op (.move (.r 81)), []⟩])
  (.ret))))))))
theorem e5 : Try.f5.body.map (normCode Try.prog false Try.f5.ntmps) = some n5 := by kernel_rfl
theorem r5 : resOf Try.f5 = some [4] := by kernel_rfl

def n6 : NCode :=
  .seq (.ops [
    ⟨(some 8), none, .op (.move (.k (bo false))), []⟩])
  (.seq (.ops [
    ⟨(some 20), none, .op (.move (.r 0)), []⟩,
    ⟨(some 21), none, .op (.move (.r 1)), []⟩,
    ⟨(some 22), none, .call (.k (.clos 23 [])) [(.r 20), (.r 21)], []⟩,
    ⟨(some 19), none, .op (.move (.r 22)), []⟩,
    ⟨(some 23), none, .op (.extract 0 (.r 19)), []⟩,
    ⟨(some 24), none, .op (.extract 1 (.r 19)), []⟩,
    ⟨(some 9), none, .op (.move (.r 23)), []⟩,
    ⟨(some 10), none, .op (.move (.r 24)), []⟩])
  (.seq (.ops [
    ⟨(some 26), none, .op (.move (.r 0)), []⟩,
    ⟨(some 27), none, .op (.move (.r 1)), []⟩,
    ⟨(some 28), none, .call (.k (.clos 24 [])) [(.r 26), (.r 27)], []⟩,
    ⟨(some 25), none, .op (.move (.r 28)), []⟩,
    ⟨(some 29), none, .op (.extract 0 (.r 25)), []⟩,
    ⟨(some 30), none, .op (.extract 1 (.r 25)), []⟩,
    ⟨(some 11), none, .op (.move (.r 29)), []⟩,
    ⟨(some 12), none, .op (.move (.r 30)), []⟩])
  (.seq (.ops [
    ⟨(some 32), none, .op (.move (.r 0)), []⟩,
    ⟨(some 33), none, .op (.move (.r 2)), []⟩,
    ⟨(some 34), none, .op (.move (.r 3)), []⟩,
    ⟨(some 35), none, .call (.k (.clos 25 [])) [(.r 32), (.r 33), (.r 34)], []⟩,
    ⟨(some 31), none, .op (.move (.r 35)), []⟩,
    ⟨(some 36), none, .op (.extract 0 (.r 31)), []⟩,
    ⟨(some 37), none, .op (.extract 1 (.r 31)), []⟩,
    ⟨(some 13), none, .op (.move (.r 36)), []⟩,
    ⟨(some 14), none, .op (.move (.r 37)), []⟩])
  (.seq (.ops [
    ⟨(some 39), none, .op (.move (.r 0)), []⟩,
    ⟨(some 40), none, .op (.move (.r 2)), []⟩,
    ⟨(some 41), none, .op (.move (.r 3)), []⟩,
    ⟨(some 42), none, .call (.k (.clos 26 [])) [(.r 39), (.r 40), (.r 41)], []⟩,
    ⟨(some 38), none, .op (.move (.r 42)), []⟩,
    ⟨(some 43), none, .op (.extract 0 (.r 38)), []⟩,
    ⟨(some 44), none, .op (.extract 1 (.r 38)), []⟩,
    ⟨(some 15), none, .op (.move (.r 43)), []⟩,
    ⟨(some 16), none, .op (.move (.r 44)), []⟩])
  (.seq (.seq (.ops [
    ⟨(some 45), none, .op (.move (.r 9)), []⟩,
    ⟨(some 46), none, .op (.move (.r 11)), []⟩,
    ⟨(some 47), none, .op (.bin .neq .other (.r 45) (.r 46)), []⟩,
    ⟨(some 48), none, .op (.move (.r 47)), []⟩,
    ⟨(some 49), (some (48, false)), .op (.move (.r 10)), []⟩,
    ⟨(some 50), (some (48, false)), .op (.move (.r 12)), []⟩,
    ⟨(some 51), (some (48, false)), .op (.bin .neq .bool (.r 49) (.r 50)), []⟩,
    ⟨(some 52), none, .op (.pick (.r 48) (.k (bo true)) (.r 51)), []⟩,
    ⟨(some 53), none, .op (.move (.r 52)), []⟩,
    ⟨(some 54), (some (53, false)), .op (.move (.r 13)), []⟩,
    ⟨(some 55), (some (53, false)), .op (.move (.r 15)), []⟩,
    ⟨(some 56), (some (53, false)), .op (.bin .neq .other (.r 54) (.r 55)), []⟩,
    ⟨(some 57), none, .op (.pick (.r 53) (.k (bo true)) (.r 56)), []⟩,
    ⟨(some 58), none, .op (.move (.r 57)), []⟩,
    ⟨(some 59), (some (58, false)), .op (.move (.r 14)), []⟩,
    ⟨(some 60), (some (58, false)), .op (.move (.r 16)), []⟩,
    ⟨(some 61), (some (58, false)), .op (.bin .neq .other (.r 59) (.r 60)), []⟩,
    ⟨(some 62), none, .op (.pick (.r 58) (.k (bo true)) (.r 61)), []⟩])
  (.cond (.r 62)
  (.seq (.ops [
    ⟨(some 8), none, .op (.move (.k (bo false))), []⟩])
  (.ret))
  (.skip)))
  (.seq (.ops [
    ⟨(some 64), none, .op (.move (.r 1)), []⟩,
    ⟨(some 65), none, .op (.move (.r 9)), []⟩,
    ⟨(some 66), none, .op (.move (.r 10)), []⟩,
    ⟨(some 67), none, .call (.k (.clos 25 [])) [(.r 64), (.r 65), (.r 66)], []⟩,
    ⟨(some 63), none, .op (.move (.r 67)), []⟩,
    ⟨(some 68), none, .op (.extract 0 (.r 63)), []⟩,
    ⟨(some 69), none, .op (.extract 1 (.r 63)), []⟩,
    ⟨(some 17), none, .op (.move (.r 68)), []⟩,
    ⟨(some 18), none, .op (.move (.r 69)), []⟩])
  (.seq (.ops [
    ⟨(some 70), none, .op (.move (.r 17)), []⟩,
    ⟨(some 71), none, .op (.move (.r 0)), []⟩,
    ⟨(some 72), none, .op (.bin .eql .other (.r 70) (.r 71)), []⟩,
    ⟨(some 73), none, .op (.move (.r 72)), []⟩,
    ⟨(some 74), (some (73, true)), .op (.move (.r 18)), []⟩,
    ⟨(some 75), (some (73, true)), .op (.bin .eql .other (.r 74) (.k (i64 0))), []⟩,
    ⟨(some 76), none, .op (.pick (.r 73) (.r 75) (.k (bo false))), []⟩,
    ⟨(some 77), none, .op (.move (.r 76)), []⟩,
    ⟨(some 78), (some (77, true)), .call (.k (.clos 7 [])) [], []⟩,
    ⟨(some 79), none, .op (.pick (.r 77) (.r 78) (.k (bo false))), []⟩,
    ⟨(some 8), none, .op (.move (.r 79)), []⟩])
  (.ret))))))))
theorem e6 : Try.f6.body.map (normCode Try.prog false Try.f6.ntmps) = some n6 := by kernel_rfl
theorem r6 : resOf Try.f6 = some [8] := by kernel_rfl

def n7 : NCode :=
  .seq (.ops [
    ⟨(some 0), none, .op (.move (.k (bo false))), []⟩])
  (.seq (.ops [
    ⟨(some 9), none, .op (.buildSlice none [(i64 0)] 3 [(0, (.k (i64 9223372036854775807))), (1, (.k (i64 1))), (2, (.k (i64 (-1))))]), []⟩,
    ⟨(some 10), none, .call (.k (.clos 12 [])) [(.r 9)], []⟩,
    ⟨(some 8), none, .op (.move (.r 10)), []⟩,
    ⟨(some 11), none, .op (.extract 0 (.r 8)), []⟩,
    ⟨(some 12), none, .op (.extract 1 (.r 8)), []⟩,
    ⟨(some 1), none, .op (.move (.r 11)), []⟩,
    ⟨(some 2), none, .op (.move (.r 12)), []⟩])
  (.seq (.ops [
    ⟨(some 14), none, .call (.k (.clos 17 [])) [(.k (i64 9223372036854775807)), (.k (i64 1))], []⟩,
    ⟨(some 13), none, .op (.move (.r 14)), []⟩,
    ⟨(some 15), none, .op (.extract 0 (.r 13)), []⟩,
    ⟨(some 16), none, .op (.extract 1 (.r 13)), []⟩,
    ⟨(some 3), none, .op (.move (.r 15)), []⟩,
    ⟨(some 4), none, .op (.move (.r 16)), []⟩])
  (.seq (.ops [
    ⟨(some 18), none, .call (.k (.clos 14 [])) [(.k (.sc (.int .u64 10))), (.k (.sc (.int .u64 10))), (.k (.sc (.int .u64 7)))], []⟩,
    ⟨(some 17), none, .op (.move (.r 18)), []⟩,
    ⟨(some 19), none, .op (.extract 0 (.r 17)), []⟩,
    ⟨(some 20), none, .op (.extract 1 (.r 17)), []⟩,
    ⟨(some 21), none, .op (.extract 2 (.r 17)), []⟩,
    ⟨(some 5), none, .op (.move (.r 19)), []⟩,
    ⟨(some 6), none, .op (.move (.r 20)), []⟩,
    ⟨(some 7), none, .op (.move (.r 21)), []⟩])
  (.seq (.ops [
    ⟨(some 22), none, .op (.move (.r 1)), []⟩,
    ⟨(some 23), none, .op (.bin .eql .other (.r 22) (.k (i64 9223372036854775807))), []⟩,
    ⟨(some 24), none, .op (.move (.r 23)), []⟩,
    ⟨(some 25), (some (24, true)), .op (.move (.r 2)), []⟩,
    ⟨(some 26), (some (24, true)), .op (.bin .eql .other (.r 25) (.k (i64 0))), []⟩,
    ⟨(some 27), none, .op (.pick (.r 24) (.r 26) (.k (bo false))), []⟩,
    ⟨(some 28), none, .op (.move (.r 27)), []⟩,
    ⟨(some 29), (some (28, true)), .op (.move (.r 4)), []⟩,
    ⟨(some 30), (some (28, true)), .op (.bin .eql .other (.r 29) (.k (i64 8))), []⟩,
    ⟨(some 31), none, .op (.pick (.r 28) (.r 30) (.k (bo false))), []⟩,
    ⟨(some 32), none, .op (.move (.r 31)), []⟩,
    ⟨(some 33), (some (32, true)), .op (.move (.r 5)), []⟩,
    ⟨(some 34), (some (32, true)), .op (.bin .eql .other (.r 33) (.k (.sc (.int .u64 14)))), []⟩,
    ⟨(some 35), none, .op (.pick (.r 32) (.r 34) (.k (bo false))), []⟩,
    ⟨(some 36), none, .op (.move (.r 35)), []⟩,
    ⟨(some 37), (some (36, true)), .op (.move (.r 6)), []⟩,
    ⟨(some 38), (some (36, true)), .op (.bin .eql .other (.r 37) (.k (.sc (.int .u64 2)))), []⟩,
    ⟨(some 39), none, .op (.pick (.r 36) (.r 38) (.k (bo false))), []⟩,
    ⟨(some 40), none, .op (.move (.r 39)), []⟩,
    ⟨(some 41), (some (40, true)), .op (.move (.r 7)), []⟩,
    ⟨(some 42), (some (40, true)), .op (.bin .eql .other (.r 41) (.k (i64 0))), []⟩,
    ⟨(some 43), none, .op (.pick (.r 40) (.r 42) (.k (bo false))), []⟩,
    ⟨(some 0), none, .op (.move (.r 43)), []⟩])
  (.ret)))))
theorem e7 : Try.f7.body.map (normCode Try.prog false Try.f7.ntmps) = some n7 := by kernel_rfl
theorem r7 : resOf Try.f7 = some [0] := by kernel_rfl

def n8 : NCode :=
  .seq (.ops [
    ⟨(some 2), none, .op (.box (.r 0)), []⟩,
    ⟨(some 4), none, .op (.alloc [(i64 0), (.sc (.int .u64 0))]), []⟩])
  (.seq (.seq (.ops [
    ⟨(some 9), none, .op (.move (.r 1)), []⟩,
    ⟨(some 10), none, .op (.lenL (.r 9)), []⟩,
    ⟨(some 11), none, .op (.move (.k (i64 0))), []⟩])
  (.block 0 (.loop (.seq (.ops [
    ⟨(some 12), none, .op (.bin .lss .other (.r 11) (.r 10)), []⟩])
  (.seq (.cond (.r 12)
  (.skip)
  (.exit 0))
  (.seq (.block 1 (.seq (.ops [
    ⟨(some 13), none, .op (.idxAddr 1 (.r 9) (.r 11)), []⟩,
    ⟨(some 14), none, .op (.load none (.r 13)), []⟩,
    ⟨(some 6), none, .op (.move (.r 14)), []⟩])
  (.seq (.ops [
    ⟨(some 16), none, .op (.fieldAddr 1 (.r 2)), []⟩,
    ⟨(some 17), none, .op (.load none (.r 16)), []⟩,
    ⟨(some 18), none, .op (.move (.r 6)), []⟩,
    ⟨(some 19), none, .op (.conv .u64 (.r 18)), []⟩,
    ⟨(some 20), none, .call (.k (.clos 27 [])) [(.r 17), (.r 19), (.k (.sc (.int .u64 0)))], []⟩,
    ⟨(some 15), none, .op (.move (.r 20)), []⟩,
    ⟨(some 21), none, .op (.extract 0 (.r 15)), []⟩,
    ⟨(some 22), none, .op (.extract 1 (.r 15)), []⟩,
    ⟨(some 7), none, .op (.move (.r 21)), []⟩,
    ⟨(some 8), none, .op (.move (.r 22)), []⟩])
  (.ops [
    ⟨(some 23), none, .op (.fieldAddr 0 (.r 2)), []⟩,
    ⟨(some 24), none, .op (.load none (.r 23)), []⟩,
    ⟨(some 25), none, .op (.move (.r 6)), []⟩,
    ⟨(some 26), none, .op (.bin .shr .other (.r 25) (.k (.sc (.int .u64 63)))), []⟩,
    ⟨(some 27), none, .op (.bin .add .other (.r 24) (.r 26)), []⟩,
    ⟨(some 28), none, .op (.move (.r 8)), []⟩,
    ⟨(some 29), none, .op (.conv .i64 (.r 28)), []⟩,
    ⟨(some 30), none, .op (.bin .add .other (.r 27) (.r 29)), []⟩,
    ⟨(some 31), none, .op (.move (.r 7)), []⟩,
    ⟨(some 32), none, .op (.build [(i64 0), (.sc (.int .u64 0))] [(0, 1, (.r 30)), (1, 1, (.r 31))]), []⟩,
    ⟨none, none, .op (.store 2 (.r 2) (.r 32)), []⟩]))))
  (.ops [
    ⟨(some 33), none, .op (.bin .add .other (.r 11) (.k (i64 1))), []⟩,
    ⟨(some 11), none, .op (.move (.r 33)), []⟩])))))))
  (.seq (.ops [
    ⟨(some 34), none, .op (.load (some 2) (.r 2)), []⟩,
    ⟨none, none, .op (.store 2 (.r 4) (.r 34)), []⟩])
  (.ret)))
theorem e8 : Try.f8.body.map (normCode Try.prog false Try.f8.ntmps) = some n8 := by kernel_rfl
theorem r8 : resOfC Try.prog Try.f8 = some [(4, some (some 2))] := by kernel_rfl

def n9 : NCode :=
  .seq (.ops [
    ⟨(some 2), none, .op (.box (.r 0)), []⟩,
    ⟨(some 4), none, .op (.alloc [(i64 0), (.sc (.int .u64 0))]), []⟩])
  (.seq (.seq (.ops [
    ⟨(some 5), none, .op (.move (.k (i64 0))), []⟩])
  (.block 0 (.loop (.seq (.seq (.ops [
    ⟨(some 6), none, .op (.move (.r 5)), []⟩,
    ⟨(some 7), none, .op (.move (.r 1)), []⟩,
    ⟨(some 8), none, .op (.lenL (.r 7)), []⟩,
    ⟨(some 9), none, .op (.bin .lss .other (.r 6) (.r 8)), []⟩])
  (.cond (.r 9)
  (.skip)
  (.exit 0)))
  (.seq (.block 1 (.ops [
    ⟨(some 12), none, .op (.load (some 2) (.r 2)), []⟩,
    ⟨(some 13), none, .op (.move (.r 1)), []⟩,
    ⟨(some 14), none, .op (.move (.r 5)), []⟩,
    ⟨(some 15), none, .op (.idxAddr 1 (.r 13) (.r 14)), []⟩,
    ⟨(some 16), none, .op (.load none (.r 15)), []⟩,
    ⟨(some 17), none, .call (.k (.clos 28 [])) [(.r 12), (.r 16)], []⟩,
    ⟨none, none, .op (.store 2 (.r 2) (.r 17)), []⟩]))
  (.ops [
    ⟨(some 10), none, .op (.move (.r 5)), []⟩,
    ⟨(some 11), none, .op (.bin .add .other (.r 10) (.k (i64 1))), []⟩,
    ⟨(some 5), none, .op (.move (.r 11)), []⟩]))))))
  (.seq (.ops [
    ⟨(some 18), none, .op (.load (some 2) (.r 2)), []⟩,
    ⟨none, none, .op (.store 2 (.r 4) (.r 18)), []⟩])
  (.ret)))
theorem e9 : Try.f9.body.map (normCode Try.prog false Try.f9.ntmps) = some n9 := by kernel_rfl
theorem r9 : resOfC Try.prog Try.f9 = some [(4, some (some 2))] := by kernel_rfl

def n10 : NCode :=
  .seq (.ops [
    ⟨(some 1), none, .op (.box (.r 0)), []⟩,
    ⟨(some 2), none, .op (.move (.k (i64 0))), []⟩,
    ⟨(some 3), none, .op (.move (.k (i64 0))), []⟩])
  (.seq (.ops [
    ⟨(some 5), none, .op (.fieldAddr 1 (.r 1)), []⟩,
    ⟨(some 6), none, .op (.load none (.r 5)), []⟩,
    ⟨(some 7), none, .op (.conv .i64 (.r 6)), []⟩,
    ⟨(some 4), none, .op (.move (.r 7)), []⟩])
  (.seq (.ops [
    ⟨(some 8), none, .op (.move (.r 4)), []⟩,
    ⟨(some 9), none, .op (.fieldAddr 0 (.r 1)), []⟩,
    ⟨(some 10), none, .op (.load none (.r 9)), []⟩,
    ⟨(some 11), none, .op (.move (.r 4)), []⟩,
    ⟨(some 12), none, .op (.bin .shr .other (.r 11) (.k (.sc (.int .u64 63)))), []⟩,
    ⟨(some 13), none, .op (.bin .eql .other (.r 10) (.r 12)), []⟩,
    ⟨(some 14), none, .call (.k (.clos 29 [])) [(.r 8), (.r 13)], []⟩,
    ⟨(some 15), none, .op (.extract 0 (.r 14)), []⟩,
    ⟨(some 16), none, .op (.extract 1 (.r 14)), []⟩,
    ⟨(some 2), none, .op (.move (.r 15)), []⟩,
    ⟨(some 3), none, .op (.move (.r 16)), []⟩])
  (.ret)))
theorem e10 : Try.f10.body.map (normCode Try.prog false Try.f10.ntmps) = some n10 := by kernel_rfl
theorem r10 : resOf Try.f10 = some [2, 3] := by kernel_rfl

def n11 : NCode :=
  .seq (.ops [
    ⟨(some 1), none, .op (.box (.r 0)), []⟩,
    ⟨(some 2), none, .op (.move (.k (i64 0))), []⟩,
    ⟨(some 3), none, .op (.move (.k (i64 0))), []⟩])
  (.seq (.ops [
    ⟨(some 5), none, .op (.fieldAddr 1 (.r 1)), []⟩,
    ⟨(some 6), none, .op (.load none (.r 5)), []⟩,
    ⟨(some 7), none, .op (.conv .i64 (.r 6)), []⟩,
    ⟨(some 4), none, .op (.move (.r 7)), []⟩])
  (.seq (.seq (.ops [
    ⟨(some 8), none, .op (.fieldAddr 0 (.r 1)), []⟩,
    ⟨(some 9), none, .op (.load none (.r 8)), []⟩,
    ⟨(some 10), none, .op (.bin .eql .other (.r 9) (.k (i64 0))), []⟩,
    ⟨(some 11), none, .op (.move (.r 10)), []⟩,
    ⟨(some 12), (some (11, true)), .op (.move (.r 4)), []⟩,
    ⟨(some 13), (some (11, true)), .op (.bin .geq .other (.r 12) (.k (i64 0))), []⟩,
    ⟨(some 14), none, .op (.pick (.r 11) (.r 13) (.k (bo false))), []⟩,
    ⟨(some 15), none, .op (.move (.r 14)), []⟩,
    ⟨(some 16), (some (15, false)), .op (.fieldAddr 0 (.r 1)), []⟩,
    ⟨(some 17), (some (15, false)), .op (.load none (.r 16)), []⟩,
    ⟨(some 18), (some (15, false)), .op (.bin .eql .other (.r 17) (.k (i64 (-1)))), []⟩,
    ⟨(some 19), (some (15, false)), .op (.move (.r 18)), []⟩,
    ⟨(some 20), (some (19, true)), .op (.move (.r 4)), []⟩,
    ⟨(some 21), (some (19, true)), .op (.bin .lss .other (.r 20) (.k (i64 0))), []⟩,
    ⟨(some 22), (some (15, false)), .op (.pick (.r 19) (.r 21) (.k (bo false))), []⟩,
    ⟨(some 23), none, .op (.pick (.r 15) (.k (bo true)) (.r 22)), []⟩])
  (.cond (.r 23)
  (.seq (.ops [
    ⟨(some 24), none, .op (.move (.r 4)), []⟩,
    ⟨(some 2), none, .op (.move (.r 24)), []⟩,
    ⟨(some 3), none, .op (.move (.k (i64 0))), []⟩])
  (.ret))
  (.skip)))
  (.seq (.ops [
    ⟨(some 2), none, .op (.move (.k (i64 0))), []⟩,
    ⟨(some 3), none, .op (.move (.k (i64 8))), []⟩])
  (.ret))))
theorem e11 : Try.f11.body.map (normCode Try.prog false Try.f11.ntmps) = some n11 := by kernel_rfl
theorem r11 : resOf Try.f11 = some [2, 3] := by kernel_rfl

def n12 : NCode :=
  .seq (.ops [
    ⟨(some 2), none, .op (.move (.k (i64 0))), []⟩,
    ⟨(some 3), none, .op (.move (.k (i64 0))), []⟩])
  (.seq (.ops [
    ⟨(some 4), none, .op (.build [(i64 0), (.sc (.int .u64 0))] []), []⟩,
    ⟨(some 5), none, .op (.move (.r 0)), []⟩,
    ⟨(some 6), none, .call (.k (.clos 8 [])) [(.r 4), (.r 5)], []⟩,
    ⟨(some 7), none, .call (.k (.clos 10 [])) [(.r 6)], []⟩,
    ⟨(some 8), none, .op (.extract 0 (.r 7)), []⟩,
    ⟨(some 9), none, .op (.extract 1 (.r 7)), []⟩,
    ⟨(some 2), none, .op (.move (.r 8)), []⟩,
    ⟨(some 3), none, .op (.move (.r 9)), []⟩])
  (.ret))
theorem e12 : Try.f12.body.map (normCode Try.prog false Try.f12.ntmps) = some n12 := by kernel_rfl
theorem r12 : resOf Try.f12 = some [2, 3] := by kernel_rfl

def n13 : NCode :=
  .seq (.ops [
    ⟨(some 2), none, .op (.move (.k (i64 0))), []⟩,
    ⟨(some 3), none, .op (.move (.k (i64 0))), []⟩])
  (.seq (.ops [
    ⟨(some 4), none, .op (.build [(i64 0), (.sc (.int .u64 0))] []), []⟩,
    ⟨(some 5), none, .op (.move (.r 0)), []⟩,
    ⟨(some 6), none, .call (.k (.clos 9 [])) [(.r 4), (.r 5)], []⟩,
    ⟨(some 7), none, .call (.k (.clos 11 [])) [(.r 6)], []⟩,
    ⟨(some 8), none, .op (.extract 0 (.r 7)), []⟩,
    ⟨(some 9), none, .op (.extract 1 (.r 7)), []⟩,
    ⟨(some 2), none, .op (.move (.r 8)), []⟩,
    ⟨(some 3), none, .op (.move (.r 9)), []⟩])
  (.ret))
theorem e13 : Try.f13.body.map (normCode Try.prog false Try.f13.ntmps) = some n13 := by kernel_rfl
theorem r13 : resOf Try.f13 = some [2, 3] := by kernel_rfl

def n14 : NCode :=
  .seq (.ops [
    ⟨(some 6), none, .op (.move (.k (.sc (.int .u64 0)))), []⟩,
    ⟨(some 7), none, .op (.move (.k (.sc (.int .u64 0)))), []⟩,
    ⟨(some 8), none, .op (.move (.k (i64 0))), []⟩])
  (.seq (.ops [
    ⟨(some 14), none, .op (.move (.r 0)), []⟩,
    ⟨(some 15), none, .op (.move (.r 1)), []⟩,
    ⟨(some 16), none, .call (.k (.clos 30 [])) [(.r 14), (.r 15)], []⟩,
    ⟨(some 13), none, .op (.move (.r 16)), []⟩,
    ⟨(some 17), none, .op (.extract 0 (.r 13)), []⟩,
    ⟨(some 18), none, .op (.extract 1 (.r 13)), []⟩,
    ⟨(some 9), none, .op (.move (.r 17)), []⟩,
    ⟨(some 10), none, .op (.move (.r 18)), []⟩])
  (.seq (.block 0 (.seq (.ops [
    ⟨(some 20), none, .op (.move (.r 2)), []⟩,
    ⟨(some 21), none, .op (.bin .eql .other (.r 20) (.k (.sc (.int .u64 0)))), []⟩,
    ⟨(some 19), none, .op (.move (.r 21)), []⟩])
  (.cond (.r 19)
  (.seq (.ops [
    ⟨(some 6), none, .op (.move (.k (.sc (.int .u64 0)))), []⟩,
    ⟨(some 7), none, .op (.move (.k (.sc (.int .u64 0)))), []⟩,
    ⟨(some 8), none, .op (.move (.k (i64 9))), []⟩])
  (.ret))
  (.seq (.ops [
    ⟨(some 23), none, .op (.move (.r 9)), []⟩,
    ⟨(some 24), none, .op (.move (.r 2)), []⟩,
    ⟨(some 25), none, .op (.bin .geq .other (.r 23) (.r 24)), []⟩,
    ⟨(some 22), none, .op (.move (.r 25)), []⟩])
  (.cond (.r 22)
  (.seq (.ops [
    ⟨(some 6), none, .op (.move (.k (.sc (.int .u64 0)))), []⟩,
    ⟨(some 7), none, .op (.move (.k (.sc (.int .u64 0)))), []⟩,
    ⟨(some 8), none, .op (.move (.k (i64 8))), []⟩])
  (.ret))
  (.skip))))))
  (.seq (.ops [
    ⟨(some 27), none, .op (.move (.r 9)), []⟩,
    ⟨(some 28), none, .op (.move (.r 10)), []⟩,
    ⟨(some 29), none, .op (.move (.r 2)), []⟩,
    ⟨(some 30), none, .call (.k (.clos 31 [])) [(.r 27), (.r 28), (.r 29)], []⟩,
    ⟨(some 26), none, .op (.move (.r 30)), []⟩,
    ⟨(some 31), none, .op (.extract 0 (.r 26)), []⟩,
    ⟨(some 32), none, .op (.extract 1 (.r 26)), []⟩,
    ⟨(some 11), none, .op (.move (.r 31)), []⟩,
    ⟨(some 12), none, .op (.move (.r 32)), []⟩])
  (.seq (.ops [
    ⟨(some 33), none, .op (.move (.r 11)), []⟩,
    ⟨(some 34), none, .op (.move (.r 12)), []⟩,
    ⟨(some 6), none, .op (.move (.r 33)), []⟩,
    ⟨(some 7), none, .op (.move (.r 34)), []⟩,
    ⟨(some 8), none, .op (.move (.k (i64 0))), []⟩])
  (.ret)))))
theorem e14 : Try.f14.body.map (normCode Try.prog false Try.f14.ntmps) = some n14 := by kernel_rfl
theorem r14 : resOf Try.f14 = some [6, 7, 8] := by kernel_rfl

def n15 : NCode :=
  .seq (.ops [
    ⟨(some 6), none, .op (.move (.k (.sc (.int .u64 0)))), []⟩,
    ⟨(some 7), none, .op (.move (.k (.sc (.int .u64 0)))), []⟩,
    ⟨(some 8), none, .op (.move (.k (i64 0))), []⟩])
  (.seq (.seq (.ops [
    ⟨(some 15), none, .op (.move (.r 2)), []⟩,
    ⟨(some 16), none, .op (.bin .eql .other (.r 15) (.k (.sc (.int .u64 0)))), []⟩])
  (.cond (.r 16)
  (.seq (.ops [
    ⟨(some 6), none, .op (.move (.k (.sc (.int .u64 0)))), []⟩,
    ⟨(some 7), none, .op (.move (.k (.sc (.int .u64 0)))), []⟩,
    ⟨(some 8), none, .op (.move (.k (i64 9))), []⟩])
  (.ret))
  (.skip)))
  (.seq (.ops [
    ⟨(some 18), none, .op (.move (.r 0)), []⟩,
    ⟨(some 19), none, .op (.move (.r 1)), []⟩,
    ⟨(some 20), none, .call (.k (.clos 16 [])) [(.r 18), (.r 19)], []⟩,
    ⟨(some 17), none, .op (.move (.r 20)), []⟩,
    ⟨(some 21), none, .op (.extract 0 (.r 17)), []⟩,
    ⟨(some 22), none, .op (.extract 1 (.r 17)), []⟩,
    ⟨(some 9), none, .op (.move (.r 21)), []⟩,
    ⟨(some 10), none, .op (.move (.r 22)), []⟩])
  (.seq (.seq (.ops [
    ⟨(some 23), none, .op (.move (.r 9)), []⟩,
    ⟨(some 24), none, .op (.move (.r 2)), []⟩,
    ⟨(some 25), none, .op (.bin .geq .other (.r 23) (.r 24)), []⟩])
  (.cond (.r 25)
  (.seq (.ops [
    ⟨(some 6), none, .op (.move (.k (.sc (.int .u64 0)))), []⟩,
    ⟨(some 7), none, .op (.move (.k (.sc (.int .u64 0)))), []⟩,
    ⟨(some 8), none, .op (.move (.k (i64 8))), []⟩])
  (.ret))
  (.skip)))
  (.seq (.ops [
    ⟨(some 11), none, .op (.move (.k (.sc (.int .u64 0)))), []⟩])
  (.seq (.ops [
    ⟨(some 26), none, .op (.move (.r 9)), []⟩,
    ⟨(some 12), none, .op (.move (.r 26)), []⟩])
  (.seq (.seq (.ops [
    ⟨(some 13), none, .op (.move (.k (i64 63))), []⟩])
  (.block 0 (.loop (.seq (.seq (.ops [
    ⟨(some 27), none, .op (.move (.r 13)), []⟩,
    ⟨(some 28), none, .op (.bin .geq .other (.r 27) (.k (i64 0))), []⟩])
  (.cond (.r 28)
  (.skip)
  (.exit 0)))
  (.seq (.block 1 (.seq (.ops [
    ⟨(some 31), none, .op (.move (.r 12)), []⟩,
    ⟨(some 32), none, .op (.bin .shr .other (.r 31) (.k (.sc (.int .u64 63)))), []⟩,
    ⟨(some 14), none, .op (.move (.r 32)), []⟩])
  (.seq (.ops [
    ⟨(some 33), none, .op (.move (.r 12)), []⟩,
    ⟨(some 34), none, .op (.bin .shl .other (.r 33) (.k (.sc (.int .u64 1)))), []⟩,
    ⟨(some 35), none, .op (.move (.r 10)), []⟩,
    ⟨(some 36), none, .op (.move (.r 13)), []⟩,
    ⟨(some 37), none, .op (.conv .u64 (.r 36)), []⟩,
    ⟨(some 38), none, .op (.bin .shr .other (.r 35) (.r 37)), []⟩,
    ⟨(some 39), none, .op (.bin .and .other (.r 38) (.k (.sc (.int .u64 1)))), []⟩,
    ⟨(some 40), none, .op (.bin .or .other (.r 34) (.r 39)), []⟩,
    ⟨(some 12), none, .op (.move (.r 40)), []⟩])
  (.seq (.ops [
    ⟨(some 41), none, .op (.move (.r 11)), []⟩,
    ⟨(some 42), none, .op (.bin .shl .other (.r 41) (.k (.sc (.int .u64 1)))), []⟩,
    ⟨(some 11), none, .op (.move (.r 42)), []⟩])
  (.seq (.ops [
    ⟨(some 43), none, .op (.move (.r 14)), []⟩,
    ⟨(some 44), none, .op (.bin .eql .other (.r 43) (.k (.sc (.int .u64 1)))), []⟩,
    ⟨(some 45), none, .op (.move (.r 44)), []⟩,
    ⟨(some 46), (some (45, false)), .op (.move (.r 12)), []⟩,
    ⟨(some 47), (some (45, false)), .op (.move (.r 2)), []⟩,
    ⟨(some 48), (some (45, false)), .op (.bin .geq .other (.r 46) (.r 47)), []⟩,
    ⟨(some 49), none, .op (.pick (.r 45) (.k (bo true)) (.r 48)), []⟩])
  (.cond (.r 49)
  (.seq (.ops [
    ⟨(some 50), none, .op (.move (.r 12)), []⟩,
    ⟨(some 51), none, .op (.move (.r 2)), []⟩,
    ⟨(some 52), none, .op (.bin .sub .other (.r 50) (.r 51)), []⟩,
    ⟨(some 12), none, .op (.move (.r 52)), []⟩])
  (.ops [
    ⟨(some 53), none, .op (.move (.r 11)), []⟩,
    ⟨(some 54), none, .op (.bin .or .other (.r 53) (.k (.sc (.int .u64 1)))), []⟩,
    ⟨(some 11), none, .op (.move (.r 54)), []⟩]))
  (.skip)))))))
  (.ops [
    ⟨(some 29), none, .op (.move (.r 13)), []⟩,
    ⟨(some 30), none, .op (.bin .sub .other (.r 29) (.k (i64 1))), []⟩,
    ⟨(some 13), none, .op (.move (.r 30)), []⟩]))))))
  (.seq (.ops [
    ⟨(some 55), none, .op (.move (.r 11)), []⟩,
    ⟨(some 56), none, .op (.move (.r 12)), []⟩,
    ⟨(some 6), none, .op (.move (.r 55)), []⟩,
    ⟨(some 7), none, .op (.move (.r 56)), []⟩,
    ⟨(some 8), none, .op (.move (.k (i64 0))), []⟩])
  (.ret))))))))
theorem e15 : Try.f15.body.map (normCode Try.prog false Try.f15.ntmps) = some n15 := by kernel_rfl
theorem r15 : resOf Try.f15 = some [6, 7, 8] := by kernel_rfl

def n16 : NCode :=
  .seq (.ops [
    ⟨(some 4), none, .op (.move (.k (.sc (.int .u64 0)))), []⟩,
    ⟨(some 5), none, .op (.move (.k (.sc (.int .u64 0)))), []⟩])
  (.seq (.ops [
    ⟨(some 6), none, .op (.move (.k (.sc (.int .u64 0)))), []⟩])
  (.seq (.ops [
    ⟨(some 7), none, .op (.move (.k (.sc (.int .u64 0)))), []⟩])
  (.seq (.seq (.ops [
    ⟨(some 8), none, .op (.move (.k (i64 63))), []⟩])
  (.block 0 (.loop (.seq (.seq (.ops [
    ⟨(some 10), none, .op (.move (.r 8)), []⟩,
    ⟨(some 11), none, .op (.bin .geq .other (.r 10) (.k (i64 0))), []⟩])
  (.cond (.r 11)
  (.skip)
  (.exit 0)))
  (.seq (.block 1 (.seq (.ops [
    ⟨(some 14), none, .op (.move (.r 6)), []⟩,
    ⟨(some 15), none, .op (.bin .shl .other (.r 14) (.k (.sc (.int .u64 1)))), []⟩,
    ⟨(some 16), none, .op (.move (.r 7)), []⟩,
    ⟨(some 17), none, .op (.bin .shr .other (.r 16) (.k (.sc (.int .u64 63)))), []⟩,
    ⟨(some 18), none, .op (.bin .or .other (.r 15) (.r 17)), []⟩,
    ⟨(some 6), none, .op (.move (.r 18)), []⟩])
  (.seq (.ops [
    ⟨(some 19), none, .op (.move (.r 7)), []⟩,
    ⟨(some 20), none, .op (.bin .shl .other (.r 19) (.k (.sc (.int .u64 1)))), []⟩,
    ⟨(some 7), none, .op (.move (.r 20)), []⟩])
  (.seq (.ops [
    ⟨(some 21), none, .op (.move (.r 1)), []⟩,
    ⟨(some 22), none, .op (.move (.r 8)), []⟩,
    ⟨(some 23), none, .op (.conv .u64 (.r 22)), []⟩,
    ⟨(some 24), none, .op (.bin .shr .other (.r 21) (.r 23)), []⟩,
    ⟨(some 25), none, .op (.bin .and .other (.r 24) (.k (.sc (.int .u64 1)))), []⟩,
    ⟨(some 26), none, .op (.bin .eql .other (.r 25) (.k (.sc (.int .u64 1)))), []⟩])
  (.cond (.r 26)
  (.seq (.ops [
    ⟨(some 27), none, .op (.move (.r 7)), []⟩,
    ⟨(some 28), none, .op (.move (.r 0)), []⟩,
    ⟨(some 29), none, .op (.bin .add .other (.r 27) (.r 28)), []⟩,
    ⟨(some 9), none, .op (.move (.r 29)), []⟩])
  (.seq (.seq (.ops [
    ⟨(some 30), none, .op (.move (.r 9)), []⟩,
    ⟨(some 31), none, .op (.move (.r 7)), []⟩,
    ⟨(some 32), none, .op (.bin .lss .other (.r 30) (.r 31)), []⟩])
  (.cond (.r 32)
  (.ops [
    ⟨(some 33), none, .op (.move (.r 6)), []⟩,
    ⟨(some 34), none, .op (.bin .add .other (.r 33) (.k (.sc (.int .u64 1)))), []⟩,
    ⟨(some 6), none, .op (.move (.r 34)), []⟩])
  (.skip)))
  (.ops [
    ⟨(some 35), none, .op (.move (.r 9)), []⟩,
    ⟨(some 7), none, .op (.move (.r 35)), []⟩])))
  (.skip))))))
  (.ops [
    ⟨(some 12), none, .op (.move (.r 8)), []⟩,
    ⟨(some 13), none, .op (.bin .sub .other (.r 12) (.k (i64 1))), []⟩,
    ⟨(some 8), none, .op (.move (.r 13)), []⟩]))))))
  (.seq (.ops [
    ⟨(some 36), none, .op (.move (.r 6)), []⟩,
    ⟨(some 37), none, .op (.move (.r 7)), []⟩,
    ⟨(some 4), none, .op (.move (.r 36)), []⟩,
    ⟨(some 5), none, .op (.move (.r 37)), []⟩])
  (.ret)))))
theorem e16 : Try.f16.body.map (normCode Try.prog false Try.f16.ntmps) = some n16 := by kernel_rfl
theorem r16 : resOf Try.f16 = some [4, 5] := by kernel_rfl

def n17 : NCode :=
  .seq (.ops [
    ⟨(some 4), none, .op (.move (.k (i64 0))), []⟩,
    ⟨(some 5), none, .op (.move (.k (i64 0))), []⟩])
  (.seq (.ops [
    ⟨(some 7), none, .op (.move (.r 0)), []⟩,
    ⟨(some 8), none, .op (.move (.r 1)), []⟩,
    ⟨(some 9), none, .op (.bin .add .other (.r 7) (.r 8)), []⟩,
    ⟨(some 6), none, .op (.move (.r 9)), []⟩])
  (.seq (.ops [
    ⟨(some 10), none, .op (.move (.r 6)), []⟩,
    ⟨(some 11), none, .op (.move (.r 6)), []⟩,
    ⟨(some 12), none, .op (.move (.r 0)), []⟩,
    ⟨(some 13), none, .op (.bin .lss .other (.r 11) (.r 12)), []⟩,
    ⟨(some 14), none, .op (.move (.r 1)), []⟩,
    ⟨(some 15), none, .op (.bin .lss .other (.r 14) (.k (i64 0))), []⟩,
    ⟨(some 16), none, .op (.bin .eql .bool (.r 13) (.r 15)), []⟩,
    ⟨(some 17), none, .call (.k (.clos 29 [])) [(.r 10), (.r 16)], []⟩,
    ⟨(some 18), none, .op (.extract 0 (.r 17)), []⟩,
    ⟨(some 19), none, .op (.extract 1 (.r 17)), []⟩,
    ⟨(some 4), none, .op (.move (.r 18)), []⟩,
    ⟨(some 5), none, .op (.move (.r 19)), []⟩])
  (.ret)))
theorem e17 : Try.f17.body.map (normCode Try.prog false Try.f17.ntmps) = some n17 := by kernel_rfl
theorem r17 : resOf Try.f17 = some [4, 5] := by kernel_rfl

def n18 : NCode :=
  .seq (.ops [
    ⟨(some 4), none, .op (.move (.k (i64 0))), []⟩,
    ⟨(some 5), none, .op (.move (.k (i64 0))), []⟩])
  (.seq (.ops [
    ⟨(some 6), none, .op (.move (.r 0)), []⟩,
    ⟨(some 7), none, .op (.move (.r 1)), []⟩,
    ⟨(some 8), none, .op (.buildSlice none [(i64 0)] 2 [(0, (.r 6)), (1, (.r 7))]), []⟩,
    ⟨(some 9), none, .call (.k (.clos 13 [])) [(.r 8)], []⟩,
    ⟨(some 10), none, .op (.extract 0 (.r 9)), []⟩,
    ⟨(some 11), none, .op (.extract 1 (.r 9)), []⟩,
    ⟨(some 4), none, .op (.move (.r 10)), []⟩,
    ⟨(some 5), none, .op (.move (.r 11)), []⟩])
  (.ret))
theorem e18 : Try.f18.body.map (normCode Try.prog false Try.f18.ntmps) = some n18 := by kernel_rfl
theorem r18 : resOf Try.f18 = some [4, 5] := by kernel_rfl

def n19 : NCode :=
  .seq (.ops [
    ⟨(some 4), none, .op (.move (.k (i64 0))), []⟩,
    ⟨(some 5), none, .op (.move (.k (i64 0))), []⟩])
  (.seq (.ops [
    ⟨(some 7), none, .op (.move (.r 0)), []⟩,
    ⟨(some 8), none, .op (.move (.r 1)), []⟩,
    ⟨(some 9), none, .op (.bin .sub .other (.r 7) (.r 8)), []⟩,
    ⟨(some 6), none, .op (.move (.r 9)), []⟩])
  (.seq (.ops [
    ⟨(some 10), none, .op (.move (.r 6)), []⟩,
    ⟨(some 11), none, .op (.move (.r 6)), []⟩,
    ⟨(some 12), none, .op (.move (.r 0)), []⟩,
    ⟨(some 13), none, .op (.bin .gtr .other (.r 11) (.r 12)), []⟩,
    ⟨(some 14), none, .op (.move (.r 1)), []⟩,
    ⟨(some 15), none, .op (.bin .lss .other (.r 14) (.k (i64 0))), []⟩,
    ⟨(some 16), none, .op (.bin .eql .bool (.r 13) (.r 15)), []⟩,
    ⟨(some 17), none, .call (.k (.clos 29 [])) [(.r 10), (.r 16)], []⟩,
    ⟨(some 18), none, .op (.extract 0 (.r 17)), []⟩,
    ⟨(some 19), none, .op (.extract 1 (.r 17)), []⟩,
    ⟨(some 4), none, .op (.move (.r 18)), []⟩,
    ⟨(some 5), none, .op (.move (.r 19)), []⟩])
  (.ret)))
theorem e19 : Try.f19.body.map (normCode Try.prog false Try.f19.ntmps) = some n19 := by kernel_rfl
theorem r19 : resOf Try.f19 = some [4, 5] := by kernel_rfl

def n20 : NCode :=
  .seq (.ops [
    ⟨(some 4), none, .op (.move (.k (i64 0))), []⟩,
    ⟨(some 5), none, .op (.move (.k (i64 0))), []⟩])
  (.seq (.ops [
    ⟨(some 9), none, .op (.move (.r 0)), []⟩,
    ⟨(some 10), none, .op (.move (.r 1)), []⟩,
    ⟨(some 11), none, .call (.k (.clos 24 [])) [(.r 9), (.r 10)], []⟩,
    ⟨(some 8), none, .op (.move (.r 11)), []⟩,
    ⟨(some 12), none, .op (.extract 0 (.r 8)), []⟩,
    ⟨(some 13), none, .op (.extract 1 (.r 8)), []⟩,
    ⟨(some 6), none, .op (.move (.r 12)), []⟩,
    ⟨(some 7), none, .op (.move (.r 13)), []⟩])
  (.seq (.ops [
    ⟨(some 14), none, .op (.move (.r 6)), []⟩,
    ⟨(some 15), none, .op (.move (.r 7)), []⟩,
    ⟨(some 16), none, .call (.k (.clos 26 [])) [(.k (i64 0)), (.r 14), (.r 15)], []⟩,
    ⟨(some 17), none, .op (.extract 0 (.r 16)), []⟩,
    ⟨(some 18), none, .op (.extract 1 (.r 16)), []⟩,
    ⟨(some 4), none, .op (.move (.r 17)), []⟩,
    ⟨(some 5), none, .op (.move (.r 18)), []⟩])
  (.ret)))
theorem e20 : Try.f20.body.map (normCode Try.prog false Try.f20.ntmps) = some n20 := by kernel_rfl
theorem r20 : resOf Try.f20 = some [4, 5] := by kernel_rfl

def n21 : NCode :=
  .seq (.ops [
    ⟨(some 2), none, .op (.move (.k (i64 0))), []⟩,
    ⟨(some 3), none, .op (.move (.k (i64 0))), []⟩])
  (.seq (.ops [
    ⟨(some 4), none, .op (.move (.r 0)), []⟩,
    ⟨(some 5), none, .call (.k (.clos 19 [])) [(.k (i64 0)), (.r 4)], []⟩,
    ⟨(some 6), none, .op (.extract 0 (.r 5)), []⟩,
    ⟨(some 7), none, .op (.extract 1 (.r 5)), []⟩,
    ⟨(some 2), none, .op (.move (.r 6)), []⟩,
    ⟨(some 3), none, .op (.move (.r 7)), []⟩])
  (.ret))
theorem e21 : Try.f21.body.map (normCode Try.prog false Try.f21.ntmps) = some n21 := by kernel_rfl
theorem r21 : resOf Try.f21 = some [2, 3] := by kernel_rfl

def n22 : NCode :=
  .seq (.ops [
    ⟨(some 2), none, .op (.move (.k (i64 0))), []⟩,
    ⟨(some 3), none, .op (.move (.k (i64 0))), []⟩])
  (.seq (.ops [
    ⟨(some 4), none, .op (.move (.r 0)), []⟩,
    ⟨(some 5), none, .call (.k (.clos 20 [])) [(.k (i64 0)), (.r 4)], []⟩,
    ⟨(some 6), none, .op (.extract 0 (.r 5)), []⟩,
    ⟨(some 7), none, .op (.extract 1 (.r 5)), []⟩,
    ⟨(some 2), none, .op (.move (.r 6)), []⟩,
    ⟨(some 3), none, .op (.move (.r 7)), []⟩])
  (.ret))
theorem e22 : Try.f22.body.map (normCode Try.prog false Try.f22.ntmps) = some n22 := by kernel_rfl
theorem r22 : resOf Try.f22 = some [2, 3] := by kernel_rfl

def n23 : NCode :=
  .seq (.ops [
    ⟨(some 4), none, .op (.move (.k (.sc (.int .u64 0)))), []⟩,
    ⟨(some 5), none, .op (.move (.k (bo false))), []⟩])
  (.seq (.ops [
    ⟨(some 7), none, .op (.move (.r 0)), []⟩,
    ⟨(some 8), none, .op (.conv .u64 (.r 7)), []⟩,
    ⟨(some 9), none, .op (.move (.r 1)), []⟩,
    ⟨(some 10), none, .op (.conv .u64 (.r 9)), []⟩,
    ⟨(some 11), none, .op (.bin .sub .other (.r 8) (.r 10)), []⟩,
    ⟨(some 6), none, .op (.move (.r 11)), []⟩])
  (.seq (.seq (.ops [
    ⟨(some 12), none, .op (.move (.r 0)), []⟩,
    ⟨(some 13), none, .op (.move (.r 1)), []⟩,
    ⟨(some 14), none, .op (.bin .lss .other (.r 12) (.r 13)), []⟩])
  (.cond (.r 14)
  (.seq (.ops [
    ⟨(some 15), none, .op (.move (.r 6)), []⟩,
    ⟨(some 16), none, .op (.un .neg (.r 15)), []⟩,
    ⟨(some 4), none, .op (.move (.r 16)), []⟩,
    ⟨(some 5), none, .op (.move (.k (bo true))), []⟩])
  (.ret))
  (.skip)))
  (.seq (.ops [
    ⟨(some 17), none, .op (.move (.r 6)), []⟩,
    ⟨(some 4), none, .op (.move (.r 17)), []⟩,
    ⟨(some 5), none, .op (.move (.k (bo false))), []⟩])
  (.ret))))
theorem e23 : Try.f23.body.map (normCode Try.prog false Try.f23.ntmps) = some n23 := by kernel_rfl
theorem r23 : resOf Try.f23 = some [4, 5] := by kernel_rfl

def n24 : NCode :=
  .seq (.ops [
    ⟨(some 4), none, .op (.move (.k (.sc (.int .u64 0)))), []⟩,
    ⟨(some 5), none, .op (.move (.k (bo false))), []⟩])
  (.seq (.seq (.ops [
    ⟨(some 6), none, .op (.move (.r 0)), []⟩,
    ⟨(some 7), none, .op (.move (.r 1)), []⟩,
    ⟨(some 8), none, .op (.bin .lss .other (.r 6) (.r 7)), []⟩])
  (.cond (.r 8)
  (.seq (.ops [
    ⟨(some 9), none, .op (.move (.r 1)), []⟩,
    ⟨(some 10), none, .op (.conv .u64 (.r 9)), []⟩,
    ⟨(some 11), none, .op (.move (.r 0)), []⟩,
    ⟨(some 12), none, .op (.conv .u64 (.r 11)), []⟩,
    ⟨(some 13), none, .op (.bin .sub .other (.r 10) (.r 12)), []⟩,
    ⟨(some 4), none, .op (.move (.r 13)), []⟩,
    ⟨(some 5), none, .op (.move (.k (bo true))), []⟩])
  (.ret))
  (.skip)))
  (.seq (.ops [
    ⟨(some 14), none, .op (.move (.r 0)), []⟩,
    ⟨(some 15), none, .op (.conv .u64 (.r 14)), []⟩,
    ⟨(some 16), none, .op (.move (.r 1)), []⟩,
    ⟨(some 17), none, .op (.conv .u64 (.r 16)), []⟩,
    ⟨(some 18), none, .op (.bin .sub .other (.r 15) (.r 17)), []⟩,
    ⟨(some 4), none, .op (.move (.r 18)), []⟩,
    ⟨(some 5), none, .op (.move (.k (bo false))), []⟩])
  (.ret)))
theorem e24 : Try.f24.body.map (normCode Try.prog false Try.f24.ntmps) = some n24 := by kernel_rfl
theorem r24 : resOf Try.f24 = some [4, 5] := by kernel_rfl

def n25 : NCode :=
  .seq (.ops [
    ⟨(some 6), none, .op (.move (.k (i64 0))), []⟩,
    ⟨(some 7), none, .op (.move (.k (i64 0))), []⟩])
  (.seq (.seq (.ops [
    ⟨(some 14), none, .op (.move (.r 2)), []⟩])
  (.cond (.r 14)
  (.seq (.ops [
    ⟨(some 15), none, .op (.move (.r 0)), []⟩,
    ⟨(some 16), none, .op (.conv .u64 (.r 15)), []⟩,
    ⟨(some 17), none, .op (.move (.r 1)), []⟩,
    ⟨(some 18), none, .op (.bin .sub .other (.r 16) (.r 17)), []⟩,
    ⟨(some 19), none, .op (.conv .i64 (.r 18)), []⟩,
    ⟨(some 8), none, .op (.move (.r 19)), []⟩])
  (.seq (.ops [
    ⟨(some 21), none, .op (.move (.r 0)), []⟩,
    ⟨(some 22), none, .call (.k (.clos 23 [])) [(.r 21), (.k (i64 (-9223372036854775808)))], []⟩,
    ⟨(some 20), none, .op (.move (.r 22)), []⟩,
    ⟨(some 23), none, .op (.extract 0 (.r 20)), []⟩,
    ⟨(some 24), none, .op (.extract 1 (.r 20)), []⟩,
    ⟨(some 9), none, .op (.move (.r 23)), []⟩,
    ⟨(some 10), none, .op (.move (.r 24)), []⟩])
  (.seq (.ops [
    ⟨(some 25), none, .op (.move (.r 8)), []⟩,
    ⟨(some 26), none, .op (.move (.r 1)), []⟩,
    ⟨(some 27), none, .op (.move (.r 9)), []⟩,
    ⟨(some 28), none, .op (.bin .leq .other (.r 26) (.r 27)), []⟩,
    ⟨(some 29), none, .call (.k (.clos 29 [])) [(.r 25), (.r 28)], []⟩,
    ⟨(some 30), none, .op (.extract 0 (.r 29)), []⟩,
    ⟨(some 31), none, .op (.extract 1 (.r 29)), []⟩,
    ⟨(some 6), none, .op (.move (.r 30)), []⟩,
    ⟨(some 7), none, .op (.move (.r 31)), []⟩])
  (.ret))))
  (.skip)))
  (.seq (.ops [
    ⟨(some 32), none, .op (.move (.r 0)), []⟩,
    ⟨(some 33), none, .op (.conv .u64 (.r 32)), []⟩,
    ⟨(some 34), none, .op (.move (.r 1)), []⟩,
    ⟨(some 35), none, .op (.bin .add .other (.r 33) (.r 34)), []⟩,
    ⟨(some 36), none, .op (.conv .i64 (.r 35)), []⟩,
    ⟨(some 11), none, .op (.move (.r 36)), []⟩])
  (.seq (.ops [
    ⟨(some 38), none, .op (.move (.r 0)), []⟩,
    ⟨(some 39), none, .call (.k (.clos 23 [])) [(.k (i64 9223372036854775807)), (.r 38)], []⟩,
    ⟨(some 37), none, .op (.move (.r 39)), []⟩,
    ⟨(some 40), none, .op (.extract 0 (.r 37)), []⟩,
    ⟨(some 41), none, .op (.extract 1 (.r 37)), []⟩,
    ⟨(some 12), none, .op (.move (.r 40)), []⟩,
    ⟨(some 13), none, .op (.move (.r 41)), []⟩])
  (.seq (.ops [
    ⟨(some 42), none, .op (.move (.r 11)), []⟩,
    ⟨(some 43), none, .op (.move (.r 1)), []⟩,
    ⟨(some 44), none, .op (.move (.r 12)), []⟩,
    ⟨(some 45), none, .op (.bin .leq .other (.r 43) (.r 44)), []⟩,
    ⟨(some 46), none, .call (.k (.clos 29 [])) [(.r 42), (.r 45)], []⟩,
    ⟨(some 47), none, .op (.extract 0 (.r 46)), []⟩,
    ⟨(some 48), none, .op (.extract 1 (.r 46)), []⟩,
    ⟨(some 6), none, .op (.move (.r 47)), []⟩,
    ⟨(some 7), none, .op (.move (.r 48)), []⟩])
  (.ret)))))
theorem e25 : Try.f25.body.map (normCode Try.prog false Try.f25.ntmps) = some n25 := by kernel_rfl
theorem r25 : resOf Try.f25 = some [6, 7] := by kernel_rfl

def n26 : NCode :=
  .seq (.ops [
    ⟨(some 6), none, .op (.move (.k (i64 0))), []⟩,
    ⟨(some 7), none, .op (.move (.k (i64 0))), []⟩])
  (.seq (.ops [
    ⟨(some 11), none, .op (.build [(i64 0), (.sc (.int .u64 0))] []), []⟩,
    ⟨(some 12), none, .op (.move (.r 0)), []⟩,
    ⟨(some 13), none, .call (.k (.clos 28 [])) [(.r 11), (.r 12)], []⟩,
    ⟨(some 8), none, .op (.alloc [(i64 0), (.sc (.int .u64 0))]), []⟩,
    ⟨none, none, .op (.store 2 (.r 8) (.r 13)), []⟩])
  (.seq (.seq (.ops [
    ⟨(some 14), none, .op (.move (.r 2)), []⟩])
  (.cond (.r 14)
  (.seq (.ops [
    ⟨(some 15), none, .op (.fieldAddr 1 (.r 8)), []⟩,
    ⟨(some 16), none, .op (.load none (.r 15)), []⟩,
    ⟨(some 17), none, .op (.move (.r 1)), []⟩,
    ⟨(some 18), none, .op (.bin .sub .other (.r 16) (.r 17)), []⟩,
    ⟨(some 9), none, .op (.move (.r 18)), []⟩])
  (.seq (.seq (.ops [
    ⟨(some 19), none, .op (.move (.r 9)), []⟩,
    ⟨(some 20), none, .op (.fieldAddr 1 (.r 8)), []⟩,
    ⟨(some 21), none, .op (.load none (.r 20)), []⟩,
    ⟨(some 22), none, .op (.bin .gtr .other (.r 19) (.r 21)), []⟩])
  (.cond (.r 22)
  (.ops [
    ⟨(some 23), none, .op (.fieldAddr 0 (.r 8)), []⟩,
    ⟨(some 24), none, .op (.load none (.r 23)), []⟩,
    ⟨(some 25), none, .op (.bin .sub .other (.r 24) (.k (i64 1))), []⟩,
    ⟨(some 26), none, .op (.fieldAddr 0 (.r 8)), []⟩,
    ⟨none, none, .op (.store 1 (.r 26) (.r 25)), []⟩])
  (.skip)))
  (.seq (.ops [
    ⟨(some 27), none, .op (.fieldAddr 0 (.r 8)), []⟩,
    ⟨(some 28), none, .op (.load none (.r 27)), []⟩,
    ⟨(some 29), none, .op (.move (.r 9)), []⟩,
    ⟨(some 30), none, .op (.build [(i64 0), (.sc (.int .u64 0))] [(0, 1, (.r 28)), (1, 1, (.r 29))]), []⟩,
    ⟨(some 31), none, .call (.k (.clos 11 [])) [(.r 30)], []⟩,
    ⟨(some 32), none, .op (.extract 0 (.r 31)), []⟩,
    ⟨(some 33), none, .op (.extract 1 (.r 31)), []⟩,
    ⟨(some 6), none, .op (.move (.r 32)), []⟩,
    ⟨(some 7), none, .op (.move (.r 33)), []⟩])
  (.ret))))
  (.skip)))
  (.seq (.ops [
    ⟨(some 34), none, .op (.fieldAddr 1 (.r 8)), []⟩,
    ⟨(some 35), none, .op (.load none (.r 34)), []⟩,
    ⟨(some 36), none, .op (.move (.r 1)), []⟩,
    ⟨(some 37), none, .op (.bin .add .other (.r 35) (.r 36)), []⟩,
    ⟨(some 10), none, .op (.move (.r 37)), []⟩])
  (.seq (.seq (.ops [
    ⟨(some 38), none, .op (.move (.r 10)), []⟩,
    ⟨(some 39), none, .op (.fieldAddr 1 (.r 8)), []⟩,
    ⟨(some 40), none, .op (.load none (.r 39)), []⟩,
    ⟨(some 41), none, .op (.bin .lss .other (.r 38) (.r 40)), []⟩])
  (.cond (.r 41)
  (.ops [
    ⟨(some 42), none, .op (.fieldAddr 0 (.r 8)), []⟩,
    ⟨(some 43), none, .op (.load none (.r 42)), []⟩,
    ⟨(some 44), none, .op (.bin .add .other (.r 43) (.k (i64 1))), []⟩,
    ⟨(some 45), none, .op (.fieldAddr 0 (.r 8)), []⟩,
    ⟨none, none, .op (.store 1 (.r 45) (.r 44)), []⟩])
  (.skip)))
  (.seq (.ops [
    ⟨(some 46), none, .op (.fieldAddr 0 (.r 8)), []⟩,
    ⟨(some 47), none, .op (.load none (.r 46)), []⟩,
    ⟨(some 48), none, .op (.move (.r 10)), []⟩,
    ⟨(some 49), none, .op (.build [(i64 0), (.sc (.int .u64 0))] [(0, 1, (.r 47)), (1, 1, (.r 48))]), []⟩,
    ⟨(some 50), none, .call (.k (.clos 11 [])) [(.r 49)], []⟩,
    ⟨(some 51), none, .op (.extract 0 (.r 50)), []⟩,
    ⟨(some 52), none, .op (.extract 1 (.r 50)), []⟩,
    ⟨(some 6), none, .op (.move (.r 51)), []⟩,
    ⟨(some 7), none, .op (.move (.r 52)), []⟩])
  (.ret))))))
theorem e26 : Try.f26.body.map (normCode Try.prog false Try.f26.ntmps) = some n26 := by kernel_rfl
theorem r26 : resOf Try.f26 = some [6, 7] := by kernel_rfl

def n28 : NCode :=
  .seq (.ops [
    ⟨(some 2), none, .op (.box (.r 0)), []⟩,
    ⟨(some 4), none, .op (.alloc [(i64 0), (.sc (.int .u64 0))]), []⟩])
  (.seq (.ops [
    ⟨(some 7), none, .op (.fieldAddr 1 (.r 2)), []⟩,
    ⟨(some 8), none, .op (.load none (.r 7)), []⟩,
    ⟨(some 9), none, .op (.move (.r 1)), []⟩,
    ⟨(some 10), none, .op (.conv .u64 (.r 9)), []⟩,
    ⟨(some 11), none, .op (.bin .add .other (.r 8) (.r 10)), []⟩,
    ⟨(some 5), none, .op (.move (.r 11)), []⟩])
  (.seq (.ops [
    ⟨(some 12), none, .op (.fieldAddr 0 (.r 2)), []⟩,
    ⟨(some 13), none, .op (.load none (.r 12)), []⟩,
    ⟨(some 6), none, .op (.move (.r 13)), []⟩])
  (.seq (.seq (.ops [
    ⟨(some 14), none, .op (.move (.r 5)), []⟩,
    ⟨(some 15), none, .op (.fieldAddr 1 (.r 2)), []⟩,
    ⟨(some 16), none, .op (.load none (.r 15)), []⟩,
    ⟨(some 17), none, .op (.bin .lss .other (.r 14) (.r 16)), []⟩])
  (.cond (.r 17)
  (.ops [
    ⟨(some 18), none, .op (.move (.r 6)), []⟩,
    ⟨(some 19), none, .op (.bin .add .other (.r 18) (.k (i64 1))), []⟩,
    ⟨(some 6), none, .op (.move (.r 19)), []⟩])
  (.skip)))
  (.seq (.seq (.ops [
    ⟨(some 20), none, .op (.move (.r 1)), []⟩,
    ⟨(some 21), none, .op (.bin .lss .other (.r 20) (.k (i64 0))), []⟩])
  (.cond (.r 21)
  (.ops [
    ⟨(some 22), none, .op (.move (.r 6)), []⟩,
    ⟨(some 23), none, .op (.bin .sub .other (.r 22) (.k (i64 1))), []⟩,
    ⟨(some 6), none, .op (.move (.r 23)), []⟩])
  (.skip)))
  (.seq (.ops [
    ⟨(some 24), none, .op (.move (.r 6)), []⟩,
    ⟨(some 25), none, .op (.move (.r 5)), []⟩,
    ⟨(some 26), none, .op (.build [(i64 0), (.sc (.int .u64 0))] [(0, 1, (.r 24)), (1, 1, (.r 25))]), []⟩,
    ⟨none, none, .op (.store 2 (.r 4) (.r 26)), []⟩])
  (.ret))))))
theorem e28 : Try.f28.body.map (normCode Try.prog false Try.f28.ntmps) = some n28 := by kernel_rfl
theorem r28 : resOfC Try.prog Try.f28 = some [(4, some (some 2))] := by kernel_rfl

def n29 : NCode :=
  .seq (.ops [
    ⟨(some 4), none, .op (.move (.k (i64 0))), []⟩,
    ⟨(some 5), none, .op (.move (.k (i64 0))), []⟩])
  (.seq (.seq (.ops [
    ⟨(some 6), none, .op (.move (.r 1)), []⟩,
    ⟨(some 7), none, .op (.un .not (.r 6)), []⟩])
  (.cond (.r 7)
  (.seq (.ops [
    ⟨(some 4), none, .op (.move (.k (i64 0))), []⟩,
    ⟨(some 5), none, .op (.move (.k (i64 8))), []⟩])
  (.ret))
  (.skip)))
  (.seq (.ops [
    ⟨(some 8), none, .op (.move (.r 0)), []⟩,
    ⟨(some 4), none, .op (.move (.r 8)), []⟩,
    ⟨(some 5), none, .op (.move (.k (i64 0))), []⟩])
  (.ret)))
theorem e29 : Try.f29.body.map (normCode Try.prog false Try.f29.ntmps) = some n29 := by kernel_rfl
theorem r29 : resOf Try.f29 = some [4, 5] := by kernel_rfl

def n30 : NCode :=
  .seq (.ops [
    ⟨(some 4), none, .op (.move (.k (.sc (.int .u64 0)))), []⟩,
    ⟨(some 5), none, .op (.move (.k (.sc (.int .u64 0)))), []⟩])
  (.seq (.ops [
    ⟨(some 14), none, .op (.move (.r 0)), []⟩,
    ⟨(some 15), none, .op (.bin .and .other (.r 14) (.k (.sc (.int .u64 4294967295)))), []⟩,
    ⟨(some 6), none, .op (.move (.r 15)), []⟩])
  (.seq (.ops [
    ⟨(some 16), none, .op (.move (.r 0)), []⟩,
    ⟨(some 17), none, .op (.bin .shr .other (.r 16) (.k (.sc (.int .u64 32)))), []⟩,
    ⟨(some 7), none, .op (.move (.r 17)), []⟩])
  (.seq (.ops [
    ⟨(some 18), none, .op (.move (.r 1)), []⟩,
    ⟨(some 19), none, .op (.bin .and .other (.r 18) (.k (.sc (.int .u64 4294967295)))), []⟩,
    ⟨(some 8), none, .op (.move (.r 19)), []⟩])
  (.seq (.ops [
    ⟨(some 20), none, .op (.move (.r 1)), []⟩,
    ⟨(some 21), none, .op (.bin .shr .other (.r 20) (.k (.sc (.int .u64 32)))), []⟩,
    ⟨(some 9), none, .op (.move (.r 21)), []⟩])
  (.seq (.ops [
    ⟨(some 22), none, .op (.move (.r 6)), []⟩,
    ⟨(some 23), none, .op (.move (.r 8)), []⟩,
    ⟨(some 24), none, .op (.bin .mul .other (.r 22) (.r 23)), []⟩,
    ⟨(some 10), none, .op (.move (.r 24)), []⟩])
  (.seq (.ops [
    ⟨(some 25), none, .op (.move (.r 7)), []⟩,
    ⟨(some 26), none, .op (.move (.r 8)), []⟩,
    ⟨(some 27), none, .op (.bin .mul .other (.r 25) (.r 26)), []⟩,
    ⟨(some 28), none, .op (.move (.r 10)), []⟩,
    ⟨(some 29), none, .op (.bin .shr .other (.r 28) (.k (.sc (.int .u64 32)))), []⟩,
    ⟨(some 30), none, .op (.bin .add .other (.r 27) (.r 29)), []⟩,
    ⟨(some 11), none, .op (.move (.r 30)), []⟩])
  (.seq (.ops [
    ⟨(some 31), none, .op (.move (.r 11)), []⟩,
    ⟨(some 32), none, .op (.bin .and .other (.r 31) (.k (.sc (.int .u64 4294967295)))), []⟩,
    ⟨(some 12), none, .op (.move (.r 32)), []⟩])
  (.seq (.ops [
    ⟨(some 33), none, .op (.move (.r 11)), []⟩,
    ⟨(some 34), none, .op (.bin .shr .other (.r 33) (.k (.sc (.int .u64 32)))), []⟩,
    ⟨(some 13), none, .op (.move (.r 34)), []⟩])
  (.seq (.ops [
    ⟨(some 35), none, .op (.move (.r 12)), []⟩,
    ⟨(some 36), none, .op (.move (.r 6)), []⟩,
    ⟨(some 37), none, .op (.move (.r 9)), []⟩,
    ⟨(some 38), none, .op (.bin .mul .other (.r 36) (.r 37)), []⟩,
    ⟨(some 39), none, .op (.bin .add .other (.r 35) (.r 38)), []⟩,
    ⟨(some 12), none, .op (.move (.r 39)), []⟩])
  (.seq (.ops [
    ⟨(some 40), none, .op (.move (.r 7)), []⟩,
    ⟨(some 41), none, .op (.move (.r 9)), []⟩,
    ⟨(some 42), none, .op (.bin .mul .other (.r 40) (.r 41)), []⟩,
    ⟨(some 43), none, .op (.move (.r 13)), []⟩,
    ⟨(some 44), none, .op (.bin .add .other (.r 42) (.r 43)), []⟩,
    ⟨(some 45), none, .op (.move (.r 12)), []⟩,
    ⟨(some 46), none, .op (.bin .shr .other (.r 45) (.k (.sc (.int .u64 32)))), []⟩,
    ⟨(some 47), none, .op (.bin .add .other (.r 44) (.r 46)), []⟩,
    ⟨(some 4), none, .op (.move (.r 47)), []⟩])
  (.seq (.ops [
    ⟨(some 48), none, .op (.move (.r 0)), []⟩,
    ⟨(some 49), none, .op (.move (.r 1)), []⟩,
    ⟨(some 50), none, .op (.bin .mul .other (.r 48) (.r 49)), []⟩,
    ⟨(some 5), none, .op (.move (.r 50)), []⟩])
  (.ret))))))))))))
theorem e30 : Try.f30.body.map (normCode Try.prog false Try.f30.ntmps) = some n30 := by kernel_rfl
theorem r30 : resOf Try.f30 = some [4, 5] := by kernel_rfl

def n31 : NCode :=
  .seq (.ops [
    ⟨(some 6), none, .op (.move (.k (.sc (.int .u64 0)))), []⟩,
    ⟨(some 7), none, .op (.move (.k (.sc (.int .u64 0)))), []⟩])
  (.seq (.seq (.ops [
    ⟨(some 19), none, .op (.move (.r 2)), []⟩,
    ⟨(some 20), none, .op (.bin .eql .other (.r 19) (.k (.sc (.int .u64 0)))), []⟩])
  (.cond (.r 20)
  (.ops [
    ⟨(some 21), none, .op (.load none .no), []⟩,
    ⟨none, none, .panic (.r 21), []⟩])
  (.skip)))
  (.seq (.seq (.ops [
    ⟨(some 22), none, .op (.move (.r 2)), []⟩,
    ⟨(some 23), none, .op (.move (.r 0)), []⟩,
    ⟨(some 24), none, .op (.bin .leq .other (.r 22) (.r 23)), []⟩])
  (.cond (.r 24)
  (.ops [
    ⟨(some 25), none, .op (.load none .no), []⟩,
    ⟨none, none, .panic (.r 25), []⟩])
  (.skip)))
  (.seq (.seq (.ops [
    ⟨(some 26), none, .op (.move (.r 0)), []⟩,
    ⟨(some 27), none, .op (.bin .eql .other (.r 26) (.k (.sc (.int .u64 0)))), []⟩])
  (.cond (.r 27)
  (.seq (.ops [
    ⟨(some 28), none, .op (.move (.r 1)), []⟩,
    ⟨(some 29), none, .op (.move (.r 2)), []⟩,
    ⟨(some 30), none, .op (.bin .quo .other (.r 28) (.r 29)), []⟩,
    ⟨(some 31), none, .op (.move (.r 1)), []⟩,
    ⟨(some 32), none, .op (.move (.r 2)), []⟩,
    ⟨(some 33), none, .op (.bin .rem .other (.r 31) (.r 32)), []⟩,
    ⟨(some 6), none, .op (.move (.r 30)), []⟩,
    ⟨(some 7), none, .op (.move (.r 33)), []⟩])
  (.ret))
  (.skip)))
  (.seq (.ops [
    ⟨(some 34), none, .op (.move (.r 2)), []⟩,
    ⟨(some 35), none, .call (.k (.clos 32 [])) [(.r 34)], []⟩,
    ⟨(some 36), none, .op (.conv .u64 (.r 35)), []⟩,
    ⟨(some 8), none, .op (.move (.r 36)), []⟩])
  (.seq (.ops [
    ⟨(some 37), none, .op (.move (.r 2)), []⟩,
    ⟨(some 38), none, .op (.move (.r 8)), []⟩,
    ⟨(some 39), none, .op (.bin .shl .other (.r 37) (.r 38)), []⟩,
    ⟨(some 2), none, .op (.move (.r 39)), []⟩])
  (.seq (.ops [
    ⟨(some 40), none, .op (.move (.r 2)), []⟩,
    ⟨(some 41), none, .op (.bin .shr .other (.r 40) (.k (.sc (.int .u64 32)))), []⟩,
    ⟨(some 9), none, .op (.move (.r 41)), []⟩])
  (.seq (.ops [
    ⟨(some 42), none, .op (.move (.r 2)), []⟩,
    ⟨(some 43), none, .op (.bin .and .other (.r 42) (.k (.sc (.int .u64 4294967295)))), []⟩,
    ⟨(some 10), none, .op (.move (.r 43)), []⟩])
  (.seq (.ops [
    ⟨(some 44), none, .op (.move (.r 0)), []⟩,
    ⟨(some 45), none, .op (.move (.r 8)), []⟩,
    ⟨(some 46), none, .op (.bin .shl .other (.r 44) (.r 45)), []⟩,
    ⟨(some 47), none, .op (.move (.r 1)), []⟩,
    ⟨(some 48), none, .op (.move (.r 8)), []⟩,
    ⟨(some 49), none, .op (.bin .sub .other (.k (.sc (.int .u64 64))) (.r 48)), []⟩,
    ⟨(some 50), none, .op (.bin .shr .other (.r 47) (.r 49)), []⟩,
    ⟨(some 51), none, .op (.bin .or .other (.r 46) (.r 50)), []⟩,
    ⟨(some 11), none, .op (.move (.r 51)), []⟩])
  (.seq (.ops [
    ⟨(some 52), none, .op (.move (.r 1)), []⟩,
    ⟨(some 53), none, .op (.move (.r 8)), []⟩,
    ⟨(some 54), none, .op (.bin .shl .other (.r 52) (.r 53)), []⟩,
    ⟨(some 12), none, .op (.move (.r 54)), []⟩])
  (.seq (.ops [
    ⟨(some 55), none, .op (.move (.r 12)), []⟩,
    ⟨(some 56), none, .op (.bin .shr .other (.r 55) (.k (.sc (.int .u64 32)))), []⟩,
    ⟨(some 13), none, .op (.move (.r 56)), []⟩])
  (.seq (.ops [
    ⟨(some 57), none, .op (.move (.r 12)), []⟩,
    ⟨(some 58), none, .op (.bin .and .other (.r 57) (.k (.sc (.int .u64 4294967295)))), []⟩,
    ⟨(some 14), none, .op (.move (.r 58)), []⟩])
  (.seq (.ops [
    ⟨(some 59), none, .op (.move (.r 11)), []⟩,
    ⟨(some 60), none, .op (.move (.r 9)), []⟩,
    ⟨(some 61), none, .op (.bin .quo .other (.r 59) (.r 60)), []⟩,
    ⟨(some 15), none, .op (.move (.r 61)), []⟩])
  (.seq (.ops [
    ⟨(some 62), none, .op (.move (.r 11)), []⟩,
    ⟨(some 63), none, .op (.move (.r 15)), []⟩,
    ⟨(some 64), none, .op (.move (.r 9)), []⟩,
    ⟨(some 65), none, .op (.bin .mul .other (.r 63) (.r 64)), []⟩,
    ⟨(some 66), none, .op (.bin .sub .other (.r 62) (.r 65)), []⟩,
    ⟨(some 16), none, .op (.move (.r 66)), []⟩])
  (.seq (.block 0 (.loop (.seq (.seq (.ops [
    ⟨(some 67), none, .op (.move (.r 15)), []⟩,
    ⟨(some 68), none, .op (.bin .geq .other (.r 67) (.k (.sc (.int .u64 4294967296)))), []⟩,
    ⟨(some 69), none, .op (.move (.r 68)), []⟩,
    ⟨(some 70), (some (69, false)), .op (.move (.r 15)), []⟩,
    ⟨(some 71), (some (69, false)), .op (.move (.r 10)), []⟩,
    ⟨(some 72), (some (69, false)), .op (.bin .mul .other (.r 70) (.r 71)), []⟩,
    ⟨(some 73), (some (69, false)), .op (.move (.r 16)), []⟩,
    ⟨(some 74), (some (69, false)), .op (.bin .mul .other (.k (.sc (.int .u64 4294967296))) (.r 73)), []⟩,
    ⟨(some 75), (some (69, false)), .op (.move (.r 13)), []⟩,
    ⟨(some 76), (some (69, false)), .op (.bin .add .other (.r 74) (.r 75)), []⟩,
    ⟨(some 77), (some (69, false)), .op (.bin .gtr .other (.r 72) (.r 76)), []⟩,
    ⟨(some 78), none, .op (.pick (.r 69) (.k (bo true)) (.r 77)), []⟩])
  (.cond (.r 78)
  (.skip)
  (.exit 0)))
  (.block 1 (.seq (.ops [
    ⟨(some 79), none, .op (.move (.r 15)), []⟩,
    ⟨(some 80), none, .op (.bin .sub .other (.r 79) (.k (.sc (.int .u64 1)))), []⟩,
    ⟨(some 15), none, .op (.move (.r 80)), []⟩])
  (.seq (.ops [
    ⟨(some 81), none, .op (.move (.r 16)), []⟩,
    ⟨(some 82), none, .op (.move (.r 9)), []⟩,
    ⟨(some 83), none, .op (.bin .add .other (.r 81) (.r 82)), []⟩,
    ⟨(some 16), none, .op (.move (.r 83)), []⟩])
  (.seq (.ops [
    ⟨(some 84), none, .op (.move (.r 16)), []⟩,
    ⟨(some 85), none, .op (.bin .geq .other (.r 84) (.k (.sc (.int .u64 4294967296)))), []⟩])
  (.cond (.r 85)
  (.exit 0)
  (.skip)))))))))
  (.seq (.ops [
    ⟨(some 86), none, .op (.move (.r 11)), []⟩,
    ⟨(some 87), none, .op (.bin .mul .other (.r 86) (.k (.sc (.int .u64 4294967296)))), []⟩,
    ⟨(some 88), none, .op (.move (.r 13)), []⟩,
    ⟨(some 89), none, .op (.bin .add .other (.r 87) (.r 88)), []⟩,
    ⟨(some 90), none, .op (.move (.r 15)), []⟩,
    ⟨(some 91), none, .op (.move (.r 2)), []⟩,
    ⟨(some 92), none, .op (.bin .mul .other (.r 90) (.r 91)), []⟩,
    ⟨(some 93), none, .op (.bin .sub .other (.r 89) (.r 92)), []⟩,
    ⟨(some 17), none, .op (.move (.r 93)), []⟩])
  (.seq (.ops [
    ⟨(some 94), none, .op (.move (.r 17)), []⟩,
    ⟨(some 95), none, .op (.move (.r 9)), []⟩,
    ⟨(some 96), none, .op (.bin .quo .other (.r 94) (.r 95)), []⟩,
    ⟨(some 18), none, .op (.move (.r 96)), []⟩])
  (.seq (.ops [
    ⟨(some 97), none, .op (.move (.r 17)), []⟩,
    ⟨(some 98), none, .op (.move (.r 18)), []⟩,
    ⟨(some 99), none, .op (.move (.r 9)), []⟩,
    ⟨(some 100), none, .op (.bin .mul .other (.r 98) (.r 99)), []⟩,
    ⟨(some 101), none, .op (.bin .sub .other (.r 97) (.r 100)), []⟩,
    ⟨(some 16), none, .op (.move (.r 101)), []⟩])
  (.seq (.block 2 (.loop (.seq (.seq (.ops [
    ⟨(some 102), none, .op (.move (.r 18)), []⟩,
    ⟨(some 103), none, .op (.bin .geq .other (.r 102) (.k (.sc (.int .u64 4294967296)))), []⟩,
    ⟨(some 104), none, .op (.move (.r 103)), []⟩,
    ⟨(some 105), (some (104, false)), .op (.move (.r 18)), []⟩,
    ⟨(some 106), (some (104, false)), .op (.move (.r 10)), []⟩,
    ⟨(some 107), (some (104, false)), .op (.bin .mul .other (.r 105) (.r 106)), []⟩,
    ⟨(some 108), (some (104, false)), .op (.move (.r 16)), []⟩,
    ⟨(some 109), (some (104, false)), .op (.bin .mul .other (.k (.sc (.int .u64 4294967296))) (.r 108)), []⟩,
    ⟨(some 110), (some (104, false)), .op (.move (.r 14)), []⟩,
    ⟨(some 111), (some (104, false)), .op (.bin .add .other (.r 109) (.r 110)), []⟩,
    ⟨(some 112), (some (104, false)), .op (.bin .gtr .other (.r 107) (.r 111)), []⟩,
    ⟨(some 113), none, .op (.pick (.r 104) (.k (bo true)) (.r 112)), []⟩])
  (.cond (.r 113)
  (.skip)
  (.exit 2)))
  (.block 3 (.seq (.ops [
    ⟨(some 114), none, .op (.move (.r 18)), []⟩,
    ⟨(some 115), none, .op (.bin .sub .other (.r 114) (.k (.sc (.int .u64 1)))), []⟩,
    ⟨(some 18), none, .op (.move (.r 115)), []⟩])
  (.seq (.ops [
    ⟨(some 116), none, .op (.move (.r 16)), []⟩,
    ⟨(some 117), none, .op (.move (.r 9)), []⟩,
    ⟨(some 118), none, .op (.bin .add .other (.r 116) (.r 117)), []⟩,
    ⟨(some 16), none, .op (.move (.r 118)), []⟩])
  (.seq (.ops [
    ⟨(some 119), none, .op (.move (.r 16)), []⟩,
    ⟨(some 120), none, .op (.bin .geq .other (.r 119) (.k (.sc (.int .u64 4294967296)))), []⟩])
  (.cond (.r 120)
  (.exit 2)
  (.skip)))))))))
  (.seq (.ops [
    ⟨(some 121), none, .op (.move (.r 15)), []⟩,
    ⟨(some 122), none, .op (.bin .mul .other (.r 121) (.k (.sc (.int .u64 4294967296)))), []⟩,
    ⟨(some 123), none, .op (.move (.r 18)), []⟩,
    ⟨(some 124), none, .op (.bin .add .other (.r 122) (.r 123)), []⟩,
    ⟨(some 125), none, .op (.move (.r 17)), []⟩,
    ⟨(some 126), none, .op (.bin .mul .other (.r 125) (.k (.sc (.int .u64 4294967296)))), []⟩,
    ⟨(some 127), none, .op (.move (.r 14)), []⟩,
    ⟨(some 128), none, .op (.bin .add .other (.r 126) (.r 127)), []⟩,
    ⟨(some 129), none, .op (.move (.r 18)), []⟩,
    ⟨(some 130), none, .op (.move (.r 2)), []⟩,
    ⟨(some 131), none, .op (.bin .mul .other (.r 129) (.r 130)), []⟩,
    ⟨(some 132), none, .op (.bin .sub .other (.r 128) (.r 131)), []⟩,
    ⟨(some 133), none, .op (.move (.r 8)), []⟩,
    ⟨(some 134), none, .op (.bin .shr .other (.r 132) (.r 133)), []⟩,
    ⟨(some 6), none, .op (.move (.r 124)), []⟩,
    ⟨(some 7), none, .op (.move (.r 134)), []⟩])
  (.ret))))))))))))))))))))
theorem e31 : Try.f31.body.map (normCode Try.prog false Try.f31.ntmps) = some n31 := by kernel_rfl
theorem r31 : resOf Try.f31 = some [6, 7] := by kernel_rfl

def n32 : NCode :=
  .seq (.ops [
    ⟨(some 2), none, .op (.move (.k (i64 0))), []⟩])
  (.seq (.ops [
    ⟨(some 3), none, .op (.move (.r 0)), []⟩,
    ⟨(some 4), none, .call (.k (.clos 33 [])) [(.r 3)], []⟩,
    ⟨(some 5), none, .op (.bin .sub .other (.k (i64 64)) (.r 4)), []⟩,
    ⟨(some 2), none, .op (.move (.r 5)), []⟩])
  (.ret))
theorem e32 : Try.f32.body.map (normCode Try.prog false Try.f32.ntmps) = some n32 := by kernel_rfl
theorem r32 : resOf Try.f32 = some [2] := by kernel_rfl

def n33 : NCode :=
  .seq (.ops [
    ⟨(some 2), none, .op (.move (.k (i64 0))), []⟩])
  (.seq (.seq (.ops [
    ⟨(some 3), none, .op (.move (.r 0)), []⟩,
    ⟨(some 4), none, .op (.bin .geq .other (.r 3) (.k (.sc (.int .u64 4294967296)))), []⟩])
  (.cond (.r 4)
  (.seq (.ops [
    ⟨(some 5), none, .op (.move (.r 0)), []⟩,
    ⟨(some 6), none, .op (.bin .shr .other (.r 5) (.k (.sc (.int .u64 32)))), []⟩,
    ⟨(some 0), none, .op (.move (.r 6)), []⟩])
  (.ops [
    ⟨(some 2), none, .op (.move (.k (i64 32))), []⟩]))
  (.skip)))
  (.seq (.seq (.ops [
    ⟨(some 7), none, .op (.move (.r 0)), []⟩,
    ⟨(some 8), none, .op (.bin .geq .other (.r 7) (.k (.sc (.int .u64 65536)))), []⟩])
  (.cond (.r 8)
  (.seq (.ops [
    ⟨(some 9), none, .op (.move (.r 0)), []⟩,
    ⟨(some 10), none, .op (.bin .shr .other (.r 9) (.k (.sc (.int .u64 16)))), []⟩,
    ⟨(some 0), none, .op (.move (.r 10)), []⟩])
  (.ops [
    ⟨(some 11), none, .op (.move (.r 2)), []⟩,
    ⟨(some 12), none, .op (.bin .add .other (.r 11) (.k (i64 16))), []⟩,
    ⟨(some 2), none, .op (.move (.r 12)), []⟩]))
  (.skip)))
  (.seq (.seq (.ops [
    ⟨(some 13), none, .op (.move (.r 0)), []⟩,
    ⟨(some 14), none, .op (.bin .geq .other (.r 13) (.k (.sc (.int .u64 256)))), []⟩])
  (.cond (.r 14)
  (.seq (.ops [
    ⟨(some 15), none, .op (.move (.r 0)), []⟩,
    ⟨(some 16), none, .op (.bin .shr .other (.r 15) (.k (.sc (.int .u64 8)))), []⟩,
    ⟨(some 0), none, .op (.move (.r 16)), []⟩])
  (.ops [
    ⟨(some 17), none, .op (.move (.r 2)), []⟩,
    ⟨(some 18), none, .op (.bin .add .other (.r 17) (.k (i64 8))), []⟩,
    ⟨(some 2), none, .op (.move (.r 18)), []⟩]))
  (.skip)))
  (.seq (.ops [
    ⟨(some 19), none, .op (.move (.r 2)), []⟩,
    ⟨(some 20), none, .op (.move (.r 0)), []⟩,
    ⟨(some 21), none, .op (.conv .u8 (.r 20)), []⟩,
    ⟨(some 22), none, .op (.idxStr (.k (.sc (.string ⟨#[0, 1, 2, 2, 3, 3, 3, 3, 4, 4, 4, 4, 4, 4, 4, 4, 5, 5, 5, 5, 5, 5, 5, 5, 5, 5, 5, 5, 5, 5, 5, 5, 6, 6, 6, 6, 6, 6, 6, 6, 6, 6, 6, 6, 6, 6, 6, 6, 6, 6, 6, 6, 6, 6, 6, 6, 6, 6, 6, 6, 6, 6, 6, 6, 7, 7, 7, 7, 7, 7, 7, 7, 7, 7, 7, 7, 7, 7, 7, 7, 7, 7, 7, 7, 7, 7, 7, 7, 7, 7, 7, 7, 7, 7, 7, 7, 7, 7, 7, 7, 7, 7, 7, 7, 7, 7, 7, 7, 7, 7, 7, 7, 7, 7, 7, 7, 7, 7, 7, 7, 7, 7, 7, 7, 7, 7, 7, 7, 8, 8, 8, 8, 8, 8, 8, 8, 8, 8, 8, 8, 8, 8, 8, 8, 8, 8, 8, 8, 8, 8, 8, 8, 8, 8, 8, 8, 8, 8, 8, 8, 8, 8, 8, 8, 8, 8, 8, 8, 8, 8, 8, 8, 8, 8, 8, 8, 8, 8, 8, 8, 8, 8, 8, 8, 8, 8, 8, 8, 8, 8, 8, 8, 8, 8, 8, 8, 8, 8, 8, 8, 8, 8, 8, 8, 8, 8, 8, 8, 8, 8, 8, 8, 8, 8, 8, 8, 8, 8, 8, 8, 8, 8, 8, 8, 8, 8, 8, 8, 8, 8, 8, 8, 8, 8, 8, 8, 8, 8, 8, 8, 8, 8, 8, 8, 8, 8, 8, 8, 8, 8, 8, 8, 8, 8, 8, 8]⟩))) (.r 21)), []⟩,
    ⟨(some 23), none, .op (.conv .i64 (.r 22)), []⟩,
    ⟨(some 24), none, .op (.bin .add .other (.r 19) (.r 23)), []⟩,
    ⟨(some 2), none, .op (.move (.r 24)), []⟩])
  (.ret)))))
theorem e33 : Try.f33.body.map (normCode Try.prog false Try.f33.ntmps) = some n33 := by kernel_rfl
theorem r33 : resOf Try.f33 = some [2] := by kernel_rfl

end Go.Proofs.Ytidmcijapbeaaaa.Moi
